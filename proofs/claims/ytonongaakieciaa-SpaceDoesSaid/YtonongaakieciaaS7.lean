/- A space: Clone, Memory. Partitions: may they be? The pages dealt: the iterator's walk. The pages dealt: what New's walk keeps. -/
import Derived.Test.YtonongaakieciaaS3
import Derived.Test.YtonongaakieciaaRd
namespace Go.Proofs.Ytonongaakieciaa
open Go.RowKit
set_option linter.unusedVariables false
set_option linter.unusedSimpArgs false
set_option maxRecDepth 100000
theorem Try.info62 : (Try.prog.info? 62).map (fun i => (i.zero, i.size, i.bytes)) = some (some (.slice none 0 0), 1, 24) := by kernel_rfl
/-- A row of tables. -/
def RowT (w : World) (g : Nat) (tb : List (List Pg)) : Prop := ∃ cs, Blk w g 62 cs ∧ ∀ (i : Nat) (t : List Pg), tb[i]? = some t → ∃ v, cs[i]? = some v ∧ TbT w v t
theorem RowT.fr {w w' : World} {g : Nat} {tb : List (List Pg)} (h : RowT w g tb) (hf : Fr [] w w') : RowT w' g tb := by
  obtain ⟨cs, hb, hr⟩ := h
  refine ⟨cs, hb.fr hf (by simp), fun i t hi => ?_⟩
  obtain ⟨v, e1, e2⟩ := hr i t hi
  exact ⟨v, e1, e2.fr hf (NoT.nil _ _)⟩
theorem SpAt.mk' {w : World} {s p F g cap : Nat} {x : Sp} (hb : Blk w s 114 #[ptr p, .slice (some ⟨g, 0, none⟩) x.tb.length cap]) (h1 : x.tb.length ≤ cap) (h2 : cap ≤ maxLen) (hm : MemAt w p F x.st) (hr : RowT w g x.tb) (n1 : 1 ≤ x.tb.length) (n2 : x.tb.length ≤ 8) (n3 : ∀ (i : Nat) (t : List Pg), x.tb[i]? = some t → t.length ≤ 16) : SpAt w s p F g x := ⟨⟨cap, hb, h1, h2⟩, hm, hr, n1, n2, n3⟩
def CloneRP (w : World) (tb : List (List Pg)) (e : Ending) (w' : World) : Prop := ∃ g cap, e = .returned (.slice (some ⟨g, 0, none⟩) tb.length cap) ∧ RowT w' g tb ∧ tb.length ≤ cap ∧ cap ≤ maxLen ∧ Fr [] w w' ∧ w.heap.size ≤ g
theorem cloneR_any (tb : List (List Pg)) (g c : Nat) (w : World) (h : RowT w g tb) (h1 : 1 ≤ tb.length) (h8 : tb.length ≤ 8) : Calls Try.prog 68 #[.slice (some ⟨g, 0, none⟩) tb.length c] w (CloneRP w tb) := by
  obtain ⟨i0, hi0, hz0, hz1, hz2⟩ := info3 Try.info62
  obtain ⟨cs, hb, hr⟩ := h
  have hcs : ∀ i, i < tb.length → ∃ A n c, cs[i]? = some (.slice A n c) := fun i hi => by
    obtain ⟨v, e1, A, c, rfl, -⟩ := hr i _ (List.getElem?_eq_getElem hi)
    exact ⟨_, _, _, e1⟩
  have hsz : tb.length ≤ cs.size := by
    obtain ⟨A, n, c, e⟩ := hcs (tb.length - 1) (by omega)
    have := (Array.getElem?_eq_some_iff.1 e).1
    omega
  obtain ⟨vs, hvs⟩ : ∃ vs, cs.toList.take tb.length = vs := ⟨_, rfl⟩
  have hvl : vs.length = tb.length := by rw [← hvs, List.length_take]; have : cs.toList.length = cs.size := rfl; omega
  have hva : ∀ i, i < tb.length → vs[i]? = cs[i]? := fun i hi => by
    rw [← hvs, List.getElem?_take, if_pos hi, Array.getElem?_toList]
  have hv1 : ∀ u ∈ vs, u.oneCell' = true := fun u hu => by
    obtain ⟨i, hi⟩ := List.getElem?_of_mem hu
    have hil := (List.getElem?_eq_some_iff.1 hi).1
    obtain ⟨A, n, c, e⟩ := hcs i (by omega)
    rw [hva i (by omega), e] at hi
    injection hi with hi
    rw [← hi]
    rfl
  have hf0 : Fr [] w (w.alloc (.cells #[] 62)) := (Fr.refl [] w).alloc _
  have hnil := fun w => Lib.run_eql_slice_nil (P := Try.prog) w 112 62 (some ⟨g, 0, none⟩) tb.length c 0 0 Try.underlying112
  have Hm0 := Lib.hid (World.ownsRow_made (base := w.heap.size) (e := 62) (size := 1) w #[] 0 (Nat.le_refl _) (by simp [maxLen]) (by simp))
  have Hc : Hid (∀ (j : Nat) (u : Value), vs[j]? = some u → (w.alloc (.cells #[] 62)).cell? ((⟨g, 0, none⟩ : Addr).add j) = some u) := Lib.hid fun j u hu => by
    have hj := (List.getElem?_eq_some_iff.1 hu).1
    rw [hva j (by omega)] at hu
    rw [addr_add, Nat.zero_add]
    exact hf0.cell_some (by rw [hb.cell]; exact hu) (by simp)
  have Hf0 := Lib.hid hf0
  have Hl := Lib.hid (show vs.length = tb.length * 1 by omega)
  have Ho := Lib.hid hv1
  have HE := Lib.hid (fun (W : World) (v : Value) (ho : W.ownsRow w.heap.size 62 1 v tb.length vs) (hf : Fr [] w W) => (show ∃ g' cap, v = .slice (some ⟨g', 0, none⟩) tb.length cap ∧ w.heap.size ≤ g' ∧ tb.length ≤ cap ∧ cap ≤ maxLen ∧ RowT W g' tb from by
    have hv : v ≠ .slice none 0 0 := by
      intro hv
      rcases ho.2 with ⟨q1, q2⟩ | ⟨g, cap, cur, q1, -⟩
      · omega
      · rw [hv] at q1
        cases q1
    obtain ⟨g', cap, cs', rfl, q1, q2, q3, q4, q5⟩ := own_some ho hv
    refine ⟨g', cap, rfl, q1, q2, q3, cs', q4, fun i t hi => ?_⟩
    have hil := (List.getElem?_eq_some_iff.1 hi).1
    obtain ⟨v, e1, e2⟩ := hr i t hi
    exact ⟨v, q5 i v (by rw [hva i hil]; exact e1), e2.fr hf (NoT.nil _ _)⟩))
  have hm1 : 0 + tb.length ≤ maxLen := by simp only [maxLen]; omega
  have hm2 : (0 + tb.length) * 24 ≤ 140737488355328 := by omega
  unfold CloneRP
  clear hb hr hcs hsz hvs hvl hva hv1 hf0
  go_enter Try.func68, Try.ntmps68
  go_wp2_with (at_builtin; go_must (refine wpList_append_own _ rfl (.tmp 5) (.tmp 6) 112 rfl w.heap.size 62 i0 (.slice none 0 0) 1 24 Try.underlying112 hi0 hz0 hz1 hz2 rfl (Nat.succ_pos 0) _ 0 [] rfl Hm0.out ⟨g, 0, none⟩ tb.length c vs rfl Hl.out Hc.out Ho.out hm1 hm2 (by simp) ?_; intro v1 w1 hown1 hg1 hnn; simp only [List.nil_append, Nat.zero_add] at hown1; have hf1 := Hf0.out.own Hm0.out hg1; obtain ⟨g', cap, rfl, k1, k2, k3, k4⟩ := HE.out _ _ hown1 hf1; have K4 := Lib.hid k4; have HF1 := Lib.hid hf1; clear k4 hf1 hown1 hg1 hnn))
  go_ret
  exact ⟨g', cap, rfl, K4.out, k2, k3, HF1.out, k1⟩
theorem Memory_any (s p F g : Nat) (x : Sp) (w : World) (h : SpAt w s p F g x) : Calls Try.prog 52 #[ptr s] w fun e w' => e = .returned (ptr p) ∧ w = w' := by
  obtain ⟨cap, c0, c1⟩ := h.cells
  clear h
  go_enter Try.func52, Try.ntmps52
  go_wp2
  go_ret
  exact ⟨rfl, rfl⟩
/-- What a copy is. -/
def SpNew (w : World) (x : Sp) (e : Ending) (w' : World) : Prop := ∃ s p F g, e = .returned (ptr s) ∧ SpAt w' s p F g x ∧ Fr [] w w' ∧ w.heap.size ≤ s ∧ w.heap.size ≤ p ∧ w.heap.size ≤ F ∧ w.heap.size ≤ g
theorem SClone_any (s p F g : Nat) (x : Sp) (w : World) (h : SpAt w s p F g x) : Calls Try.prog 25 #[ptr s] w (SpNew w x) := by
  obtain ⟨cap, c0, c1⟩ := h.cells
  have hrow : RowT w g x.tb := h.row
  have HM := Lib.hid (fun W (hf : Fr [] w W) => Clone_any p F x.st W (h.to hf).mem)
  have HR := Lib.hid (fun W (hf : Fr [] w W) => cloneR_any x.tb g cap W (hrow.fr hf) h.n1 h.n2)
  have HK := Lib.hid (fun W (hf : Fr [] w W) => (show W.cell? ⟨s, 0, none⟩ = some (ptr p) ∧ W.cell? ⟨s, 1, none⟩ = some (.slice (some ⟨g, 0, none⟩) x.tb.length cap) from ⟨hf.cell_some c0 (by simp), hf.cell_some c1 (by simp)⟩))
  have HN := Lib.hid (And.intro h.n1 (And.intro h.n2 h.n3))
  have hf := (Fr.refl [] w).drew
  have k0 := HK.out _ hf
  clear h hrow
  go_enter Try.func25, Try.ntmps25
  go_wp2_with fail
  go_region_held3 (fun W => W.cell? ⟨s, 0, none⟩ = some (ptr p) ∧ W.cell? ⟨s, 1, none⟩ = some (.slice (some ⟨g, 0, none⟩) x.tb.length cap)) (first | exact kk | exact k0 | exact kn) (first
    | (go_at_call 67; refine (HM.out _ hf).mono ?_; rintro e w2 ⟨p', F', rfl, hm2, hf2, b1, b2⟩; have hz2 := hf.size; have hf := hf.trans hf2; have kk := HK.out _ hf; have HMc := Lib.hid hm2; clear hm2 hf2)
    | (go_at_call 68; refine (HR.out _ hf).mono ?_; rintro e w3 ⟨g', cap', rfl, hr3, q1, q2, hf3, b3⟩; have hz3 := hf.size; have hf := hf.trans hf3; have kk := HK.out _ hf; have HMc := Lib.hid (HMc.out.to hf3 (by simp) (by simp)); have HRc := Lib.hid hr3; have kn := HK.out _ (hf.alloc (.cells #[ptr p', .slice (some ⟨g', 0, none⟩) x.tb.length cap'] 114)); clear hr3 hf3))
  go_wp2_with fail
  go_ret
  have hfa : Fr [] w3 (w3.alloc (.cells #[ptr p', .slice (some ⟨g', 0, none⟩) x.tb.length cap'] 114)) := (Fr.refl [] w3).alloc _
  exact ⟨w3.heap.size, p', F', g', rfl, SpAt.mk' (Blk.new w3 114 _) q1 q2 (HMc.out.to hfa (by simp) (by simp)) (HRc.out.fr hfa) HN.out.1 HN.out.2.1 HN.out.2.2, hf.trans hfa, hf.size, by omega, by omega, by omega⟩
end Go.Proofs.Ytonongaakieciaa
namespace Go.Proofs.Ytonongaakieciaa
open Go.RowKit
set_option linter.unusedVariables false
set_option linter.unusedSimpArgs false
set_option maxRecDepth 100000
/-- A partition (f: its level; r: its pages) may be. -/
def ptOk (q : Pg) : Bool := decide (1 ≤ q.r) && decide (q.r ≤ 16) && (decide (0 ≤ q.f) && decide (q.f ≤ 7))
/-- The document's and the program's answer to New. -/
def ptsE (t : List Pg) : Int := if (1 ≤ t.length ∧ t.length ≤ 8) ∧ t.all ptOk = true then 0 else 120
def inB (n a b : Int) : Bool := decide (a ≤ n) && decide (n ≤ b)
theorem in_all (n a b : Int) (w : World) : Calls Try.prog 55 #[.int .i64 n, .int .i64 a, .int .i64 b] w fun e w' => e = .returned (.bool (inB n a b)) ∧ w = w' := in_any n a b w
theorem odd_any (q : Pg) (w : World) : Calls Try.prog 54 #[.agg #[.int .i64 q.f, .int .i64 q.r]] w fun e w' => e = .returned (.bool (!ptOk q)) ∧ Fr [] w w' := by
  obtain ⟨f, r⟩ := q
  have hbx := Blk.new w 100 #[.int .i64 f, .int .i64 r]
  have k0 := hbx.cell 0
  have k1 := hbx.cell 1
  simp at k0 k1
  have hf := (Fr.refl [] w).alloc (.cells #[.int .i64 f, .int .i64 r] 100)
  have HF := Lib.hid hf
  have E : ptOk ⟨f, r⟩ = (inB r 1 16 && inB f 0 7) := rfl
  rw [E]
  clear hbx hf E
  cases h1 : inB r 1 16 with
  | false =>
    rw [Bool.false_and]
    go_enter Try.func54, Try.ntmps54
    go_wp2_with (first
      | (go_at_call 55; refine (in_all _ _ _ _).mono ?_; rintro e w1 ⟨rfl, rfl⟩))
    go_ret
    exact ⟨rfl, HF.out⟩
  | true =>
    cases h2 : inB f 0 7 with
    | false =>
      go_enter Try.func54, Try.ntmps54
      go_wp2_with (first
        | (go_at_call 55; refine (in_all _ _ _ _).mono ?_; rintro e w1 ⟨rfl, rfl⟩))
      go_ret
      exact ⟨rfl, HF.out⟩
    | true =>
      go_enter Try.func54, Try.ntmps54
      go_wp2_with (first
        | (go_at_call 55; refine (in_all _ _ _ _).mono ?_; rintro e w1 ⟨rfl, rfl⟩))
      go_ret
      exact ⟨rfl, HF.out⟩
def IdxQ (w : World) (t : List Pg) (e : Ending) (w' : World) : Prop := ∃ k : Int, e = .returned (.int .i64 k) ∧ (decide (0 ≤ k) = !t.all ptOk) ∧ Fr [] w w'
set_option maxHeartbeats 1000000 in
theorem idxQ_any (b m cap : Nat) (A : Option Addr) (t : List Pg) (w : World) (ht : Tb w b (.slice A m cap) t) (hm : m ≤ 8) :
    Calls Try.prog 89 #[.slice A m cap, .func (.func 54) #[] #[]] w (IdxQ w t) := by
  have H := Lib.hid ht
  have hl := Lib.hid ht.n_eq
  clear ht
  go_enter Try.func89, Try.ntmps89
  go_wp2
  go_loopg [8] m (fun g i wr => ∃ j : Nat, j + g = m ∧ i = .int .i64 j ∧ (t.take j).all ptOk = true ∧ Fr [] w wr)
  case atStart => exact ⟨0, by omega, rfl, by simp, Fr.refl _ _⟩
  case round =>
    obtain ⟨j, hj, rfl, hall, hfr⟩ := hrel
    have Hj := Lib.hid hj
    have Hall := Lib.hid hall
    clear hj hall
    by_cases hlt : j < m
    · obtain ⟨⟨f, r⟩, hx⟩ : ∃ x, t[j]? = some x := ⟨_, List.getElem?_eq_getElem (by have := hl.out; omega)⟩
      obtain ⟨off, hA, hbl, c0, c1⟩ := (H.out.fr hfr (by simp)).at_ hx
      subst hA
      have Hx := Lib.hid hx
      clear hx
      simp only at c0 c1
      have hb := odd_any ⟨f, r⟩ wr
      cases hm' : ptOk ⟨f, r⟩ with
      | true =>
        rw [hm'] at hb
        have Hb := Lib.hid hb
        have Hm := Lib.hid hm'
        clear hb hm'
        go_wp2_with (first
          | (go_at_call 54; go_must ((with_reducible refine (Hb.out).mono ?_); rintro e w1 ⟨rfl, hf1⟩))
          | fail)
        go_roundg (m - (j + 1))
        case measure => have := Hj.out; omega
        case rel => exact ⟨j + 1, by have := Hj.out; omega, by go_num, by rw [List.take_add_one, Hx.out]; simp [Hm.out]; simpa using Hall.out, hfr.trans hf1⟩
      | false =>
        rw [hm'] at hb
        have Hb := Lib.hid hb
        have Hm := Lib.hid hm'
        clear hb hm'
        go_wp2_with (first
          | (go_at_call 54; go_must ((with_reducible refine (Hb.out).mono ?_); rintro e w1 ⟨rfl, hf1⟩))
          | fail)
        go_ret
        refine ⟨j, rfl, ?_, hfr.trans hf1⟩
        have : t.all ptOk = false := by
          rw [List.all_eq_false]
          exact ⟨⟨f, r⟩, List.mem_of_getElem? Hx.out, by simp [Hm.out]⟩
        simp [this]
    · go_wp2
      go_ret
      refine ⟨-1, rfl, ?_, hfr⟩
      have h1 := Hall.out
      rw [List.take_of_length_le (by have := hl.out; omega)] at h1
      simp [h1]
set_option maxHeartbeats 400000 in
theorem containsQ_any (b m cap : Nat) (A : Option Addr) (t : List Pg) (w : World) (ht : Tb w b (.slice A m cap) t) (hm : m ≤ 8) :
    Calls Try.prog 56 #[.slice A m cap, .func (.func 54) #[] #[]] w fun e w' => e = .returned (.bool (!t.all ptOk)) ∧ Fr [] w w' := by
  have HI := Lib.hid (idxQ_any b m cap A t w ht hm)
  clear ht
  go_enter Try.func56, Try.ntmps56
  go_wp2_with (go_at_call 89; go_must ((with_reducible refine HI.out.mono ?_); rintro e w1 ⟨m, rfl, hm, hf1⟩; have Hm := Lib.hid hm; clear hm))
  go_ret
  exact ⟨by rw [← Hm.out]; rfl, hf1⟩
theorem SNew_bad (b m cap : Nat) (A : Option Addr) (t : List Pg) (w : World) (ht : Tb w b (.slice A m cap) t) (hE : ptsE t ≠ 0) : Calls Try.prog 13 #[.slice A m cap] w fun e w' => e = .returned (.tuple #[.pointer none, .int .i64 120]) ∧ Fr [] w w' := by
  have hl := ht.n_eq
  have hml := ht.len
  have HI := Lib.hid (fun W => in_any (m : Int) 1 8 W)
  by_cases h8 : 1 ≤ m ∧ m ≤ 8
  · have HC := Lib.hid (containsQ_any b m cap A t w ht h8.2)
    have hall : t.all ptOk = false := by
      cases h : t.all ptOk with
      | false => rfl
      | true => exact absurd (if_pos ⟨by omega, h⟩) hE
    rw [hall] at HC
    have E3 : (decide ((1 : Int) ≤ (m : Int)) && decide ((m : Int) ≤ 8)) = true := by
      rw [Bool.and_eq_true, decide_eq_true_eq, decide_eq_true_eq]
      omega
    rw [E3] at HI
    clear ht hE hall E3 hl
    go_enter Try.func13, Try.ntmps13
    go_wp2_with (first
      | (go_at_call 55; refine (HI.out _).mono ?_; rintro e w1 ⟨rfl, rfl⟩)
      | (go_at_call 56; refine HC.out.mono ?_; rintro e w1 ⟨rfl, hf1⟩))
    go_ret2
    exact ⟨rfl, hf1⟩
  · have E3 : (decide ((1 : Int) ≤ (m : Int)) && decide ((m : Int) ≤ 8)) = false := by
      rw [Bool.and_eq_false_iff, decide_eq_false_iff_not, decide_eq_false_iff_not]
      omega
    rw [E3] at HI
    clear ht hE E3 hl
    go_enter Try.func13, Try.ntmps13
    go_wp2_with (first
      | (go_at_call 55; refine (HI.out _).mono ?_; rintro e w1 ⟨rfl, rfl⟩))
    go_ret2
    exact ⟨rfl, Fr.refl _ _⟩
end Go.Proofs.Ytonongaakieciaa
namespace Go.Proofs.Ytonongaakieciaa
open Go.RowKit Go.Shelf
attribute [local go_sem] Oper.semAt_some
set_option linter.unusedVariables false
set_option linter.unusedSimpArgs false
set_option maxRecDepth 100000
/-- How many pages the j-th has, and the ones ahead of it. -/
def rN (t : List Pg) (j : Nat) : Nat := ((t[j]?).getD ⟨0, 0⟩).r.toNat
def tot (t : List Pg) (j : Nat) : Nat := ((List.range j).map (rN t)).sum
theorem tot_succ (t : List Pg) (j : Nat) : tot t (j + 1) = tot t j + rN t j := by
  unfold tot
  rw [List.range_succ, List.map_append, List.sum_append]
  simp
/-- What is dealt ahead of the k-th page of the p-th. -/
def dlt (t : List Pg) (p k : Nat) : List (Nat × Nat) := (List.range p).flatMap (fun j => (List.range (rN t j)).map fun i => (j, tot t j + i)) ++ (List.range k).map fun i => (p, tot t p + i)
theorem dlt_next (t : List Pg) (p k : Nat) : dlt t p (k + 1) = dlt t p k ++ [(p, tot t p + k)] := by
  unfold dlt
  rw [List.range_succ, List.map_append, List.append_assoc]
  rfl
theorem dlt_row (t : List Pg) (p : Nat) : dlt t (p + 1) 0 = dlt t p (rN t p) := by
  unfold dlt
  rw [List.range_succ, List.flatMap_append]
  simp
theorem dlt_len (t : List Pg) (p k : Nat) : (dlt t p k).length = tot t p + k := by
  have h0 : ∀ p, ((List.range p).flatMap (fun j => (List.range (rN t j)).map fun i => (j, tot t j + i))).length = tot t p := by
    intro p
    induction p with
    | zero => rfl
    | succ p ih =>
      rw [List.range_succ, List.flatMap_append, List.length_append, ih, tot_succ]
      simp
  unfold dlt
  rw [List.length_append, h0]
  simp
theorem ptOk_all {t : List Pg} (h : t.all ptOk = true) {j : Nat} {q : Pg} (hq : t[j]? = some q) : 1 ≤ q.r ∧ q.r ≤ 16 ∧ rN t j = q.r.toNat := by
  have := List.all_eq_true.1 h q (List.mem_of_getElem? hq)
  unfold ptOk at this
  simp only [Bool.and_eq_true, decide_eq_true_eq] at this
  refine ⟨this.1.1, this.1.2, ?_⟩
  unfold rN
  rw [hq]
  rfl
theorem rN_le {t : List Pg} (h : t.all ptOk = true) (j : Nat) : rN t j ≤ 16 := by
  cases hq : t[j]? with
  | none => unfold rN; rw [hq]; exact Nat.zero_le _
  | some q =>
    obtain ⟨h1, h2, h3⟩ := ptOk_all h hq
    omega
theorem tot_le {t : List Pg} (h : t.all ptOk = true) (j : Nat) : tot t j ≤ 16 * j := by
  induction j with
  | zero => exact Nat.zero_le _
  | succ j ih =>
    rw [tot_succ]
    have := rN_le h j
    omega
def denc (m : Nat) : Nat × Nat → Array Value := fun x => #[.int .i64 ((min x.1 (m - 1) : Nat) : Int), .int .i64 (x.2 : Int)]
set_option maxHeartbeats 2000000 in
theorem dealt1_in (F : Fence) (n : Nat) (h90 : F.fn 90) (hro : F.round = none) (hn : 1 ≤ n) (l : Nat) (kb n₀ m cap b : Nat) (A : Option Addr) (t : List Pg) (hok : t.all ptOk = true) (hm : m = t.length) (hm8 : m ≤ 8) (J Jx : List (Nat × Nat) → World → Prop)
    (hY : ∀ pre x W, J pre W → pre.length < 200 → YieldAt F (n - 1) Try.prog l (denc m x) W fun e W' =>
      (e = .returned (.bool true) ∧ J (pre ++ [x]) W' ∧ Below n₀ W W') ∨ (e = .returned (.bool false) ∧ Jx (pre ++ [x]) W'))
    (W : World) (hJ : AbidesFrom W.heap.size J) (hkb : W.cell? ⟨kb, 0, none⟩ = some (.slice A m cap)) (ht : Tb W b (.slice A m cap) t) (hb : b < n₀) (hn₀ : n₀ ≤ W.heap.size) (h0 : J [] W) :
    CallsIn F n Try.prog 90 #[.func (.yield l) #[] #[], ptr kb] W fun e W' => (∃ v, e = .returned v) ∧
      ((∃ ys, ys = dlt t m 0 ∧ J ys W') ∨ (∃ pre, (∃ p k, pre = dlt t p k) ∧ Jx pre W')) := by
  refine callsIn_of_wp Try.func90 rfl h90 ?_ hro
  simp only [Try.ntmps90, List.size_toArray, List.length_cons, List.length_nil, Nat.reduceAdd, Nat.reduceSub, Array.replicate_succ, Array.replicate_zero, List.push_toArray, List.append_toArray, List.nil_append, List.cons_append]
  have Hm := Lib.hid hm
  have Ht := Lib.hid ht
  have HOk := Lib.hid hok
  clear hm ht hok
  gi_wp2
  gi_loopw [3, 8] (fun fr i wr => ∃ (p : Nat), p ≤ m ∧ i = .int .i64 (p : Int) ∧ fr = .int .i64 (tot t p : Int) ∧ J (dlt t p 0) wr ∧ Below n₀ W wr ∧ W.heap.size ≤ wr.heap.size)
    (fun _ i _ => m - (intOf i).toNat)
  case atStart => exact ⟨0, Nat.zero_le _, rfl, rfl, h0, Below.refl _ _, Nat.le_refl _⟩
  case round =>
    obtain ⟨p, hp, rfl, rfl, hJs, hnx, hsz⟩ := hrel
    have hbt := tot_le HOk.out p
    by_cases hlt : p < m
    · obtain ⟨⟨lv, pg⟩, hx⟩ : ∃ x, t[p]? = some x := ⟨_, List.getElem?_eq_getElem (by have := Hm.out; omega)⟩
      obtain ⟨off, hA', hbl, c0, c1⟩ := Ht.out.at_ hx
      subst hA'
      have d0 := (hnx.cell (p := ⟨b, off + p * 2, none⟩) hb).trans c0
      have d1 := (hnx.cell (p := ⟨b, off + p * 2 + 1, none⟩) hb).trans c1
      simp only at d0 d1
      obtain ⟨hg1, hg2, hg3⟩ := ptOk_all HOk.out hx
      simp only at hg1 hg2 hg3
      obtain ⟨pn, rfl⟩ : ∃ pn : Nat, pg = (pn : Int) := ⟨pg.toNat, by omega⟩
      have hrn : rN t p = pn := by rw [hg3]; exact Int.toNat_natCast pn
      have hJa := hJ _ wr (wr.alloc (.cells #[.int .i64 lv, .int .i64 (pn : Int)] 100)) none hJs (World.grownBy_alloc wr _ none) (fun r e => by cases e)
      have Hrn := Lib.hid hrn
      have hnx2 : Below n₀ W (wr.alloc (.cells #[.int .i64 lv, .int .i64 (pn : Int)] 100)) := hnx.alloc (by omega) _
      have hsz2 : W.heap.size ≤ (wr.alloc (.cells #[.int .i64 lv, .int .i64 (pn : Int)] 100)).heap.size := by rw [World.size_alloc]; omega
      have hp16 : pn ≤ 16 := by omega
      clear hx c0 c1 hg1 hg2 hg3 hrn hJs
      gi_wp2
      gi_loopw [3, 15] (fun fr i wv => ∃ (k : Nat), k ≤ pn ∧ i = .int .i64 (k : Int) ∧ fr = .int .i64 ((tot t p + k : Nat) : Int) ∧ J (dlt t p k) wv ∧ Below n₀ W wv ∧ W.heap.size ≤ wv.heap.size)
        (fun _ i _ => pn - (intOf i).toNat)
      case atStart => exact ⟨0, Nat.zero_le _, rfl, rfl, hJa, hnx2, hsz2⟩
      case round =>
        obtain ⟨k, hk, rfl, rfl, hJs, hnx, hsz⟩ := hrel
        by_cases hlk : k < pn
        · obtain ⟨fn, tmps, assign, body, hy, hR⟩ := hY _ (p, tot t p + k) _ hJs (by rw [dlt_len]; omega)
          have henc : denc m (p, tot t p + k) = #[.int .i64 (p : Int), .int .i64 ((tot t p + k : Nat) : Int)] := by
            unfold denc
            rw [Nat.min_eq_left (by simp only; omega)]
          rw [henc] at hy
          have HD := Lib.hid (dlt_next t p k)
          rw [← HD.out] at hR
          have hwf : IntKind.i64.wrap (((tot t p + k : Nat) : Int) + 1) = ((tot t p + k : Nat) : Int) + 1 := IntWalk.i64_in _ (by omega)
          have hcast : Hid (((tot t p + k : Nat) : Int) + 1 = ((tot t p + (k + 1) : Nat) : Int)) := Lib.hid (by omega)
          clear henc hbt
          generalize ((tot t p + k : Nat) : Int) = tk at *
          gi_wp2
          refine hR.mono ?_
          rintro e W3 (⟨rfl, hJ3, hk3⟩ | ⟨rfl, hJx3⟩)
          · have hz3 := hk3.size
            gi_wp2
            go_roundw
            case rel => exact ⟨k + 1, by omega, by go_num, by rw [hcast.out], hJ3, hnx.trans hk3, by omega⟩
            case measure => simp [intOf]; omega
          · gi_wp2
            refine bodyPost_ret (results_none rfl _ _ _) rfl ?_
            exact ⟨⟨_, rfl⟩, .inr ⟨_, ⟨p, k + 1, rfl⟩, hJx3⟩⟩
        · have hkp : k = pn := by omega
          subst hkp
          have hrow := dlt_row t p
          rw [Hrn.out] at hrow
          have Hrow := Lib.hid hrow
          have HT := Lib.hid (show ((tot t p + k : Nat) : Int) = ((tot t (p + 1) : Nat) : Int) by rw [tot_succ, Hrn.out])
          clear hrow
          rw [HT.out]
          gi_wp2
          go_roundw
          case rel => exact ⟨p + 1, by omega, by go_num, rfl, by rw [Hrow.out]; exact hJs, hnx, hsz⟩
          case measure => simp [intOf]; omega
    · have hpm : p = m := by omega
      subst hpm
      gi_wp2
      go_end0
      exact ⟨⟨_, rfl⟩, .inl ⟨_, rfl, hJs⟩⟩
theorem dealt_stops (F : Fence) (nf : Nat) (h90 : F.fn 90) (hro : F.round = none) (hn : 1 ≤ nf) (kb n₀ m cap b : Nat) (A : Option Addr) (t : List Pg) (hok : t.all ptOk = true) (hm : m = t.length) (hm8 : m ≤ 8) (w : World) (hkb : Blk w kb 22 #[.slice A m cap]) (ht : Tb w b (.slice A m cap) t) (hb : b < n₀) (hn₀ : n₀ ≤ w.heap.size) :
    SeqStopsK F nf Try.prog 90 #[ptr kb] (denc m) (Below n₀) (fun ys => ys = dlt t m 0) (fun pre => ∃ p k, pre = dlt t p k) 200 w := fun l J Jx W hW hJ _ hY h0 =>
  dealt1_in F nf h90 hro hn l kb n₀ m cap b A t hok hm hm8 J Jx hY W hJ ((hkb.below hW hkb.lt).cell 0) (ht.fr (Fr.of_below (S := []) hW (Nat.le_refl _)) (by simp)) hb (Nat.le_trans hn₀ hW.size) h0
theorem dealt_any (A : Option Addr) (m cap : Nat) (w : World) : Calls Try.prog 57 #[.slice A m cap] w fun e w' => e = .returned (.func (.func 90) #[] #[ptr w.heap.size]) ∧ w' = w.alloc (.cells #[.slice A m cap] 22) := by
  go_enter Try.func57, Try.ntmps57
  go_wp2
  go_ret
  exact ⟨rfl, rfl⟩
end Go.Proofs.Ytonongaakieciaa
namespace Go.Proofs.Ytonongaakieciaa
open Go.RowKit Go.Shelf
set_option linter.unusedVariables false
set_option linter.unusedSimpArgs false
set_option maxRecDepth 100000
theorem Try.info3 : (Try.prog.info? 3).map (fun i => (i.zero, i.size, i.bytes)) = some (some (.int .i64 0), 1, 8) := by kernel_rfl
/-- A make of numbers: noughts. -/
theorem make_ints (n : Nat) (hn : n ≤ 8) : ∃ Z : Array Value, (∀ w : World, (Instr.makeSlice 49 (.int .i64 n) (.int .i64 n)).run Try.prog w = .ok (.slice (some ⟨w.heap.size, 0, none⟩) n n) (w.alloc (.cells Z 3))) ∧ ∀ j, j < n → Z[j]? = some (.int .i64 0) := by
  obtain ⟨i0, hi0, hz0, hz1, hz2⟩ := info3 Try.info3
  refine ⟨madeCells (Value.int .i64 0).cells (n * 1), fun w => ?_, fun j hj => ?_⟩
  · have := run_make (P := Try.prog) w 49 3 i0 _ Try.underlying49 hi0 hz0 .i64 .i64 n n (by omega) (by omega) (by rw [hz2]; omega) (by omega)
    rw [hz1] at this
    simpa using this
  · simp [madeCells, Value.cells, hj, Nat.mod_one]
/-- The ends that the body has stored. -/
def enF (m : Nat) (pre : List (Nat × Nat)) : (Nat → Nat) × Nat := pre.foldl (fun s x => (fun j => if j = min x.1 (m - 1) then s.2 + 1 else s.1 j, s.2 + 1)) (fun _ => 0, 0)
theorem enF_snoc (m : Nat) (pre : List (Nat × Nat)) (x : Nat × Nat) : enF m (pre ++ [x]) = (fun j => if j = min x.1 (m - 1) then (enF m pre).2 + 1 else (enF m pre).1 j, (enF m pre).2 + 1) := by
  unfold enF
  rw [List.foldl_append]
  rfl
theorem enF_two (m : Nat) (pre : List (Nat × Nat)) : (enF m pre).2 = pre.length := by
  have H : ∀ (pre : List (Nat × Nat)) (s : (Nat → Nat) × Nat), (pre.foldl (fun (s : (Nat → Nat) × Nat) (x : Nat × Nat) => (fun j => if j = min x.1 (m - 1) then s.2 + 1 else s.1 j, s.2 + 1)) s).2 = s.2 + pre.length := by
    intro pre
    induction pre with
    | nil => intro s; rfl
    | cons x pre ih =>
      intro s
      rw [List.foldl_cons, ih]
      simp only [List.length_cons]
      omega
  unfold enF
  rw [H]
  simp
theorem enF_dlt {t : List Pg} (hok : t.all ptOk = true) {m : Nat} (hm : m = t.length) : ∀ p, p ≤ m → ∀ j, j < m → (enF m (dlt t p 0)).1 j = if j < p then tot t (j + 1) else 0 := by
  intro p
  induction p with
  | zero => intro _ j hj; rfl
  | succ p ih =>
    intro hp j hj
    obtain ⟨q, hq⟩ : ∃ q, t[p]? = some q := ⟨_, List.getElem?_eq_getElem (by omega)⟩
    obtain ⟨g1, g2, g3⟩ := ptOk_all hok hq
    have hr : ∀ k, (enF m (dlt t p k)).1 j = if j < p then tot t (j + 1) else if j = p then (if k = 0 then 0 else tot t p + k) else 0 := by
      intro k
      induction k with
      | zero =>
        rw [ih (by omega) j hj]
        split
        · rfl
        · simp
      | succ k ihk =>
        rw [dlt_next, enF_snoc, enF_two, dlt_len]
        simp only
        rw [Nat.min_eq_left (by omega)]
        by_cases hjp : j = p
        · subst hjp
          rw [if_pos rfl, if_neg (by omega), if_pos rfl, if_neg (by omega)]
          omega
        · rw [if_neg hjp, ihk, if_neg hjp]
          split
          · rfl
          · rfl
    rw [dlt_row, hr]
    by_cases hjp : j < p
    · rw [if_pos hjp, if_pos (by omega)]
    · rw [if_neg hjp]
      by_cases hje : j = p
      · subst hje
        rw [if_pos rfl, if_neg (by omega), if_pos (by omega), tot_succ]
      · rw [if_neg hje, if_neg (by omega)]
theorem dlt_snd (t : List Pg) : ∀ p k, (dlt t p k).map (·.2) = List.range (tot t p + k) := by
  intro p
  induction p with
  | zero =>
    intro k
    induction k with
    | zero => rfl
    | succ k ih => rw [dlt_next, List.map_append, ih, show tot t 0 + (k + 1) = (tot t 0 + k) + 1 from by omega, List.range_succ]; rfl
  | succ p ih =>
    intro k
    induction k with
    | zero => rw [dlt_row, ih, tot_succ]; rfl
    | succ k ihk => rw [dlt_next, List.map_append, ihk, show tot t (p + 1) + (k + 1) = (tot t (p + 1) + k) + 1 from by omega, List.range_succ]; rfl
/-- The page that is dealt. -/
def pgOf (x : Nat × Nat) : Pg := ⟨x.2, 3⟩
/-- What New's walk keeps. -/
structure NwI (w : World) (m s : Nat) (pre : List (Nat × Nat)) (W : World) : Prop where
  own : ∃ v, Blk W s 62 #[v] ∧ W.ownsRow w.heap.size 61 2 v pre.length (cellsT (pre.map pgOf))
  hdr : Blk W (s + 2) 49 #[.slice (some ⟨s + 1, 0, none⟩) m m]
  ends : ∃ cs, Blk W (s + 1) 3 cs ∧ ∀ j, j < m → cs[j]? = some (.int .i64 ((enF m pre).1 j : Int))
  fr : Fr [] w W
theorem NwI.from_ {w : World} {m s B : Nat} (hB : w.heap.size ≤ B) : OwnFrom B (NwI w m s) := by
  rintro pre W W' row ⟨⟨v, hv, ho⟩, h2, ⟨cs, h3, h4⟩, h5⟩ hg hr
  exact ⟨⟨v, blk_grown hv hg hr, own_grown ho hg hr⟩, blk_grown h2 hg hr, ⟨cs, blk_grown h3 hg hr, h4⟩, ownFrom_fr (β := Unit) hB () W W' row h5 hg hr⟩
/-- What the append keeps. -/
theorem NwI.app {w W w'' : World} {m s : Nat} {pre : List (Nat × Nat)} {v : Value} {y : Nat × Nat} (hI : NwI w m s pre W) (hv : Blk W s 62 #[v])
    (hX : (W.alloc (.cells #[.int .i64 y.2, .int .i64 3] 61)).ownsRow w.heap.size 61 2 v pre.length (cellsT (pre.map pgOf)))
    (hg : (W.alloc (.cells #[.int .i64 y.2, .int .i64 3] 61)).grownBy w'' v.ownBlock) :
    Blk w'' s 62 #[v] ∧ Blk w'' (s + 2) 49 #[.slice (some ⟨s + 1, 0, none⟩) m m] ∧ (∃ cs, Blk w'' (s + 1) 3 cs ∧ ∀ j, j < m → cs[j]? = some (.int .i64 ((enF m pre).1 j : Int))) ∧ KeepsOthers W w'' ∧ Below w.heap.size W w'' ∧ Fr [] w w'' := by
  obtain ⟨-, h2, ⟨cs, h3, h4⟩, h5⟩ := hI
  have hbl := own_blk hX
  have hf : Fr v.ownBlock.toList (W.alloc (.cells #[.int .i64 y.2, .int .i64 3] 61)) w'' := Fr.of_own hg
  have hfW : Fr [] W (W.alloc (.cells #[.int .i64 y.2, .int .i64 3] 61)) := (Fr.refl [] W).alloc _
  have hne : ∀ {k t cs}, Blk W k t cs → t ≠ 61 → k ∉ v.ownBlock.toList := by
    intro k t cs hb ht hm
    obtain ⟨_, cs', hb'⟩ := hbl k hm
    exact ht ((hb.fr hfW (by simp)).eq hb').1
  refine ⟨(hv.fr hfW (by simp)).fr hf (hne hv (by decide)), (h2.fr hfW (by simp)).fr hf (hne h2 (by decide)), ⟨cs, (h3.fr hfW (by simp)).fr hf (hne h3 (by decide)), h4⟩, KeepsOthers.trans (KeepsOthers.of_fr hfW (by simp)) (KeepsOthers.of_fr hf (fun k hk => by obtain ⟨_, cs, hb⟩ := hbl k hk; exact ⟨61, cs, hb⟩)), ?_, (h5.trans hfW).own hX hg⟩
  exact (hfW.below h5.size (by simp)).trans (hf.below (Nat.le_trans h5.size hfW.size) (fun k hk => (hbl k hk).1))
/-- What the two stores keep. -/
theorem NwI.put {w W w'' : World} {m s : Nat} {pre : List (Nat × Nat)} {v x' : Value} {y : Nat × Nat} {cs : Array Value} (hs : w.heap.size ≤ s) (hm : 1 ≤ m) (hv : Blk w'' s 62 #[v]) (h2 : Blk w'' (s + 2) 49 #[.slice (some ⟨s + 1, 0, none⟩) m m]) (h3 : Blk w'' (s + 1) 3 cs) (h4 : ∀ j, j < m → cs[j]? = some (.int .i64 ((enF m pre).1 j : Int)))
    (hK : KeepsOthers W w'') (hB : Below w.heap.size W w'') (hF : Fr [] w w'')
    (ho : w''.ownsRow w.heap.size 61 2 x' (pre.length + 1) (cellsT (pre.map pgOf) ++ [.int .i64 y.2, .int .i64 3])) :
    let W' := (w''.setCell ⟨s, 0, none⟩ x').setCell ⟨s + 1, min y.1 (m - 1), none⟩ (.int .i64 ((pre.length + 1 : Nat) : Int))
    KeepsOthers W W' ∧ Below w.heap.size W W' ∧ NwI w m s (pre ++ [y]) W' := by
  intro W'
  have hF2 : Fr [s, s + 1] w'' W' := ((Fr.refl [s, s + 1] w'').setCell (.inl (by simp)) _).setCell (.inl (by simp)) _
  refine ⟨(hK.trans (KeepsOthers.setCell _ _ _)).trans (KeepsOthers.setCell _ _ _), (hB.trans ((Below.refl _ _).setCell hs _)).trans ((Below.refl _ _).setCell (show w.heap.size ≤ s + 1 by omega) _), ⟨x', ?_, ?_⟩, ?_, ⟨_, (h3.far (by simp) _).set_ (min y.1 (m - 1)) _, fun j hj => ?_⟩, (hF.setCell (.inr hs) _).setCell (.inr (show w.heap.size ≤ s + 1 by omega)) _⟩
  · exact (hv.set_ 0 x').far (by simp) _
  · rw [List.length_append, List.map_append]
    have : cellsT (pre.map pgOf ++ [y].map pgOf) = cellsT (pre.map pgOf) ++ [.int .i64 y.2, .int .i64 3] := by unfold cellsT; rw [List.flatMap_append]; rfl
    rw [this]
    exact own_fr ho hF2 (fun k hk cs hb => by
      simp at hk
      rcases hk with rfl | rfl
      · exact absurd (hb.eq hv).1 (by decide)
      · exact absurd (hb.eq h3).1 (by decide))
  · exact (h2.far (by simp) _).far (by simp) _
  · have hsz : ∀ j, j < m → j < cs.size := fun j hj => (Array.getElem?_eq_some_iff.1 (h4 j hj)).1
    rw [enF_snoc, enF_two, Array.getElem?_setIfInBounds]
    simp only
    by_cases hje : j = min y.1 (m - 1)
    · subst hje
      rw [if_pos rfl, if_pos rfl, if_pos (hsz _ hj)]
    · rw [if_neg (Ne.symm hje), if_neg hje, h4 j hj]
end Go.Proofs.Ytonongaakieciaa

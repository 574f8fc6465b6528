/- A space: Clone, Memory. Partitions: may they be? The pages dealt: the iterator's walk. The pages dealt: what New's walk keeps. Partitions: New, not refused. -/
import Derived.Test.YtbmaecdlkchkeaaGreatDoorS3
import Derived.Test.YtbmaecdlkchkeaaGreatDoorRng
import Derived.Deep.AppendLies
namespace Go.Proofs.YtbmaecdlkchkeaaGreatDoor
open Go.RowKit
set_option linter.unusedVariables false
set_option linter.unusedSimpArgs false
set_option maxRecDepth 100000
theorem Tryz.info43 : (Tryz.prog.info? 43).map (fun i => (i.zero, i.size, i.bytes)) = some (some (.slice none 0 0), 1, 24) := by kernel_rfl
/-- A row of tables. -/
def RowT (w : World) (g : Nat) (tb : List (List Pg)) : Prop := ∃ cs, Blk w g 43 cs ∧ ∀ (i : Nat) (t : List Pg), tb[i]? = some t → ∃ v, cs[i]? = some v ∧ TbT w v t
theorem RowT.fr {w w' : World} {g : Nat} {tb : List (List Pg)} (h : RowT w g tb) (hf : Fr [] w w') : RowT w' g tb := by
  obtain ⟨cs, hb, hr⟩ := h
  refine ⟨cs, hb.fr hf (by simp), fun i t hi => ?_⟩
  obtain ⟨v, e1, e2⟩ := hr i t hi
  exact ⟨v, e1, e2.fr hf (NoT.nil _ _)⟩
theorem SpAt.mk' {w : World} {s p F g cap : Nat} {x : Sp} (hb : Blk w s 87 #[ptr p, .slice (some ⟨g, 0, none⟩) x.tb.length cap]) (h1 : x.tb.length ≤ cap) (h2 : cap ≤ maxLen) (hm : MemAt w p F x.st) (hr : RowT w g x.tb) (n1 : 1 ≤ x.tb.length) (n2 : x.tb.length ≤ 8) (n3 : ∀ (i : Nat) (t : List Pg), x.tb[i]? = some t → t.length ≤ 16) : SpAt w s p F g x := ⟨⟨cap, hb, h1, h2⟩, hm, hr, n1, n2, n3⟩
def CloneRP (w : World) (tb : List (List Pg)) (e : Ending) (w' : World) : Prop := ∃ g cap, e = .returned (.slice (some ⟨g, 0, none⟩) tb.length cap) ∧ RowT w' g tb ∧ tb.length ≤ cap ∧ cap ≤ maxLen ∧ Fr [] w w' ∧ w.heap.size ≤ g
theorem Memory_any (s p F g : Nat) (x : Sp) (w : World) (h : SpAt w s p F g x) : Calls Tryz.prog 12 #[ptr s] w fun e w' => e = .returned (ptr p) ∧ w = w' := by
  obtain ⟨cap, c0, c1⟩ := h.cells
  clear h
  go_enter Tryz.func12, Tryz.ntmps12
  go_wp2
  go_ret
  exact ⟨rfl, rfl⟩
/-- What a copy is. -/
def SpNew (w : World) (x : Sp) (e : Ending) (w' : World) : Prop := ∃ s p F g, e = .returned (ptr s) ∧ SpAt w' s p F g x ∧ Fr [] w w' ∧ w.heap.size ≤ s ∧ w.heap.size ≤ p ∧ w.heap.size ≤ F ∧ w.heap.size ≤ g
end Go.Proofs.YtbmaecdlkchkeaaGreatDoor
namespace Go.Proofs.YtbmaecdlkchkeaaGreatDoor
open Go.RowKit
set_option linter.unusedVariables false
set_option linter.unusedSimpArgs false
set_option maxRecDepth 100000
/-- A partition (f: its level; r: its pages) may be. -/
def ptOk (q : Pg) : Bool := decide (1 ≤ q.r) && decide (q.r ≤ 16) && (decide (0 ≤ q.f) && decide (q.f ≤ 7))
/-- The document's and the program's answer to New. -/
def ptsE (t : List Pg) : Int := if (1 ≤ t.length ∧ t.length ≤ 8) ∧ t.all ptOk = true then 0 else 120
def inB (n a b : Int) : Bool := decide (a ≤ n) && decide (n ≤ b)
theorem in_all (n a b : Int) (w : World) : Calls Tryz.prog 30 #[.int .i64 n, .int .i64 a, .int .i64 b] w fun e w' => e = .returned (.bool (inB n a b)) ∧ w = w' := in_any n a b w
theorem odd_any (q : Pg) (w : World) : Calls Tryz.prog 29 #[.agg #[.int .i64 q.f, .int .i64 q.r]] w fun e w' => e = .returned (.bool (!ptOk q)) ∧ Fr [] w w' := by
  obtain ⟨f, r⟩ := q
  have hbx := Blk.new w 31 #[.int .i64 f, .int .i64 r]
  have k0 := hbx.cell 0
  have k1 := hbx.cell 1
  simp at k0 k1
  have hf := (Fr.refl [] w).alloc (.cells #[.int .i64 f, .int .i64 r] 31)
  have HF := Lib.hid hf
  have E : ptOk ⟨f, r⟩ = (inB r 1 16 && inB f 0 7) := rfl
  rw [E]
  clear hbx hf E
  cases h1 : inB r 1 16 with
  | false =>
    rw [Bool.false_and]
    go_enter Tryz.func29, Tryz.ntmps29
    go_wp2_with (first
      | (go_at_call 30; refine (in_all _ _ _ _).mono ?_; rintro e w1 ⟨rfl, rfl⟩))
    go_ret
    exact ⟨rfl, HF.out⟩
  | true =>
    cases h2 : inB f 0 7 with
    | false =>
      go_enter Tryz.func29, Tryz.ntmps29
      go_wp2_with (first
        | (go_at_call 30; refine (in_all _ _ _ _).mono ?_; rintro e w1 ⟨rfl, rfl⟩))
      go_ret
      exact ⟨rfl, HF.out⟩
    | true =>
      go_enter Tryz.func29, Tryz.ntmps29
      go_wp2_with (first
        | (go_at_call 30; refine (in_all _ _ _ _).mono ?_; rintro e w1 ⟨rfl, rfl⟩))
      go_ret
      exact ⟨rfl, HF.out⟩
def IdxQ (w : World) (t : List Pg) (e : Ending) (w' : World) : Prop := ∃ k : Int, e = .returned (.int .i64 k) ∧ (decide (0 ≤ k) = !t.all ptOk) ∧ Fr [] w w'
set_option maxHeartbeats 1000000 in
theorem idxQ_any (b m cap : Nat) (A : Option Addr) (t : List Pg) (w : World) (ht : Tb w b (.slice A m cap) t) (hm : m ≤ 8) :
    Calls Tryz.prog 60 #[.slice A m cap, .func (.func 29) #[] #[]] w (IdxQ w t) := by
  have H := Lib.hid ht
  have hl := Lib.hid ht.n_eq
  clear ht
  go_enter Tryz.func60, Tryz.ntmps60
  go_wp2
  go_loopg [8] m (fun g i wr => ∃ j : Nat, j + g = m ∧ i = .int .i64 j ∧ (t.take j).all ptOk = true ∧ Fr [] w wr)
  case atStart => exact ⟨0, by omega, rfl, by simp, Fr.refl _ _⟩
  case round =>
    obtain ⟨j, hj, rfl, hall, hfr⟩ := hrel
    have Hj := Lib.hid hj
    have Hall := Lib.hid hall
    clear hj hall
    by_cases hlt : j < m
    · obtain ⟨⟨f, r⟩, hx⟩ : ∃ x, t[j]? = some x := ⟨_, List.getElem?_eq_getElem (by have := hl.out; omega)⟩
      obtain ⟨off, hA, hbl, c0, c1⟩ := (H.out.fr hfr (by simp)).at_ hx
      subst hA
      have Hx := Lib.hid hx
      clear hx
      simp only at c0 c1
      have hb := odd_any ⟨f, r⟩ wr
      cases hm' : ptOk ⟨f, r⟩ with
      | true =>
        rw [hm'] at hb
        have Hb := Lib.hid hb
        have Hm := Lib.hid hm'
        clear hb hm'
        go_wp2_with (first
          | (go_at_call 29; go_must ((with_reducible refine (Hb.out).mono ?_); rintro e w1 ⟨rfl, hf1⟩))
          | fail)
        go_roundg (m - (j + 1))
        case measure => have := Hj.out; omega
        case rel => exact ⟨j + 1, by have := Hj.out; omega, by go_num, by rw [List.take_add_one, Hx.out]; simp [Hm.out]; simpa using Hall.out, hfr.trans hf1⟩
      | false =>
        rw [hm'] at hb
        have Hb := Lib.hid hb
        have Hm := Lib.hid hm'
        clear hb hm'
        go_wp2_with (first
          | (go_at_call 29; go_must ((with_reducible refine (Hb.out).mono ?_); rintro e w1 ⟨rfl, hf1⟩))
          | fail)
        go_ret
        refine ⟨j, rfl, ?_, hfr.trans hf1⟩
        have : t.all ptOk = false := by
          rw [List.all_eq_false]
          exact ⟨⟨f, r⟩, List.mem_of_getElem? Hx.out, by simp [Hm.out]⟩
        simp [this]
    · go_wp2
      go_ret
      refine ⟨-1, rfl, ?_, hfr⟩
      have h1 := Hall.out
      rw [List.take_of_length_le (by have := hl.out; omega)] at h1
      simp [h1]
set_option maxHeartbeats 400000 in
theorem containsQ_any (b m cap : Nat) (A : Option Addr) (t : List Pg) (w : World) (ht : Tb w b (.slice A m cap) t) (hm : m ≤ 8) :
    Calls Tryz.prog 31 #[.slice A m cap, .func (.func 29) #[] #[]] w fun e w' => e = .returned (.bool (!t.all ptOk)) ∧ Fr [] w w' := by
  have HI := Lib.hid (idxQ_any b m cap A t w ht hm)
  clear ht
  go_enter Tryz.func31, Tryz.ntmps31
  go_wp2_with (go_at_call 60; go_must ((with_reducible refine HI.out.mono ?_); rintro e w1 ⟨m, rfl, hm, hf1⟩; have Hm := Lib.hid hm; clear hm))
  go_ret
  exact ⟨by rw [← Hm.out]; rfl, hf1⟩
theorem SNew_bad (b m cap : Nat) (A : Option Addr) (t : List Pg) (w : World) (ht : Tb w b (.slice A m cap) t) (hE : ptsE t ≠ 0) : Calls Tryz.prog 7 #[.slice A m cap] w fun e w' => e = .returned (.tuple #[.pointer none, .int .i64 120]) ∧ Fr [] w w' := by
  have hl := ht.n_eq
  have hml := ht.len
  have HI := Lib.hid (fun W => in_any (m : Int) 1 8 W)
  by_cases h8 : 1 ≤ m ∧ m ≤ 8
  · have HC := Lib.hid (containsQ_any b m cap A t w ht h8.2)
    have hall : t.all ptOk = false := by
      cases h : t.all ptOk with
      | false => rfl
      | true => exact absurd (if_pos ⟨by omega, h⟩) hE
    rw [hall] at HC
    have E3 : (decide ((1 : Int) ≤ (m : Int)) && decide ((m : Int) ≤ 8)) = true := by
      rw [Bool.and_eq_true, decide_eq_true_eq, decide_eq_true_eq]
      omega
    rw [E3] at HI
    clear ht hE hall E3 hl
    go_enter Tryz.func7, Tryz.ntmps7
    go_wp2_with (first
      | (go_at_call 30; refine (HI.out _).mono ?_; rintro e w1 ⟨rfl, rfl⟩)
      | (go_at_call 31; refine HC.out.mono ?_; rintro e w1 ⟨rfl, hf1⟩))
    go_ret2
    exact ⟨rfl, hf1⟩
  · have E3 : (decide ((1 : Int) ≤ (m : Int)) && decide ((m : Int) ≤ 8)) = false := by
      rw [Bool.and_eq_false_iff, decide_eq_false_iff_not, decide_eq_false_iff_not]
      omega
    rw [E3] at HI
    clear ht hE E3 hl
    go_enter Tryz.func7, Tryz.ntmps7
    go_wp2_with (first
      | (go_at_call 30; refine (HI.out _).mono ?_; rintro e w1 ⟨rfl, rfl⟩))
    go_ret2
    exact ⟨rfl, Fr.refl _ _⟩
end Go.Proofs.YtbmaecdlkchkeaaGreatDoor
namespace Go.Proofs.YtbmaecdlkchkeaaGreatDoor
open Go.RowKit Go.Shelf
attribute [local go_sem] Oper.semAt_some
set_option linter.unusedVariables false
set_option linter.unusedSimpArgs false
set_option maxRecDepth 100000
/-- How many pages the j-th has, and the ones ahead of it. -/
def rN (t : List Pg) (j : Nat) : Nat := ((t[j]?).getD ⟨0, 0⟩).r.toNat
def tot (t : List Pg) (j : Nat) : Nat := ((List.range j).map (rN t)).sum
theorem tot_succ (t : List Pg) (j : Nat) : tot t (j + 1) = tot t j + rN t j := by
  unfold tot
  rw [List.range_succ, List.map_append, List.sum_append]
  simp
/-- What is dealt ahead of the k-th page of the p-th. -/
def dlt (t : List Pg) (p k : Nat) : List (Nat × Nat) := (List.range p).flatMap (fun j => (List.range (rN t j)).map fun i => (j, tot t j + i)) ++ (List.range k).map fun i => (p, tot t p + i)
theorem dlt_next (t : List Pg) (p k : Nat) : dlt t p (k + 1) = dlt t p k ++ [(p, tot t p + k)] := by
  unfold dlt
  rw [List.range_succ, List.map_append, List.append_assoc]
  rfl
theorem dlt_row (t : List Pg) (p : Nat) : dlt t (p + 1) 0 = dlt t p (rN t p) := by
  unfold dlt
  rw [List.range_succ, List.flatMap_append]
  simp
theorem dlt_len (t : List Pg) (p k : Nat) : (dlt t p k).length = tot t p + k := by
  have h0 : ∀ p, ((List.range p).flatMap (fun j => (List.range (rN t j)).map fun i => (j, tot t j + i))).length = tot t p := by
    intro p
    induction p with
    | zero => rfl
    | succ p ih =>
      rw [List.range_succ, List.flatMap_append, List.length_append, ih, tot_succ]
      simp
  unfold dlt
  rw [List.length_append, h0]
  simp
theorem ptOk_all {t : List Pg} (h : t.all ptOk = true) {j : Nat} {q : Pg} (hq : t[j]? = some q) : 1 ≤ q.r ∧ q.r ≤ 16 ∧ rN t j = q.r.toNat := by
  have := List.all_eq_true.1 h q (List.mem_of_getElem? hq)
  unfold ptOk at this
  simp only [Bool.and_eq_true, decide_eq_true_eq] at this
  refine ⟨this.1.1, this.1.2, ?_⟩
  unfold rN
  rw [hq]
  rfl
theorem rN_le {t : List Pg} (h : t.all ptOk = true) (j : Nat) : rN t j ≤ 16 := by
  cases hq : t[j]? with
  | none => unfold rN; rw [hq]; exact Nat.zero_le _
  | some q =>
    obtain ⟨h1, h2, h3⟩ := ptOk_all h hq
    omega
theorem tot_le {t : List Pg} (h : t.all ptOk = true) (j : Nat) : tot t j ≤ 16 * j := by
  induction j with
  | zero => exact Nat.zero_le _
  | succ j ih =>
    rw [tot_succ]
    have := rN_le h j
    omega
def denc (m : Nat) : Nat × Nat → Array Value := fun x => #[.int .i64 ((min x.1 (m - 1) : Nat) : Int), .int .i64 (x.2 : Int)]
set_option maxHeartbeats 2000000 in
theorem dealt1_in (F : Fence) (n : Nat) (h90 : F.fn 61) (hro : F.round = none) (hn : 1 ≤ n) (l : Nat) (kb n₀ m cap b : Nat) (A : Option Addr) (t : List Pg) (hok : t.all ptOk = true) (hm : m = t.length) (hm8 : m ≤ 8) (J Jx : List (Nat × Nat) → World → Prop)
    (hY : ∀ pre x W, J pre W → pre.length < 200 → YieldAt F (n - 1) Tryz.prog l (denc m x) W fun e W' =>
      (e = .returned (.bool true) ∧ J (pre ++ [x]) W' ∧ Below n₀ W W') ∨ (e = .returned (.bool false) ∧ Jx (pre ++ [x]) W'))
    (W : World) (hJ : AbidesFrom W.heap.size J) (hkb : W.cell? ⟨kb, 0, none⟩ = some (.slice A m cap)) (ht : Tb W b (.slice A m cap) t) (hb : b < n₀) (hn₀ : n₀ ≤ W.heap.size) (h0 : J [] W) :
    CallsIn F n Tryz.prog 61 #[.func (.yield l) #[] #[], ptr kb] W fun e W' => (∃ v, e = .returned v) ∧
      ((∃ ys, ys = dlt t m 0 ∧ J ys W') ∨ (∃ pre, (∃ p k, pre = dlt t p k) ∧ Jx pre W')) := by
  refine callsIn_of_wp Tryz.func61 rfl h90 ?_ hro
  simp only [Tryz.ntmps61, List.size_toArray, List.length_cons, List.length_nil, Nat.reduceAdd, Nat.reduceSub, Array.replicate_succ, Array.replicate_zero, List.push_toArray, List.append_toArray, List.nil_append, List.cons_append]
  have Hm := Lib.hid hm
  have Ht := Lib.hid ht
  have HOk := Lib.hid hok
  clear hm ht hok
  gi_wp2
  gi_loopw [3, 8] (fun fr i wr => ∃ (p : Nat), p ≤ m ∧ i = .int .i64 (p : Int) ∧ fr = .int .i64 (tot t p : Int) ∧ J (dlt t p 0) wr ∧ Below n₀ W wr ∧ W.heap.size ≤ wr.heap.size)
    (fun _ i _ => m - (intOf i).toNat)
  case atStart => exact ⟨0, Nat.zero_le _, rfl, rfl, h0, Below.refl _ _, Nat.le_refl _⟩
  case round =>
    obtain ⟨p, hp, rfl, rfl, hJs, hnx, hsz⟩ := hrel
    have hbt := tot_le HOk.out p
    by_cases hlt : p < m
    · obtain ⟨⟨lv, pg⟩, hx⟩ : ∃ x, t[p]? = some x := ⟨_, List.getElem?_eq_getElem (by have := Hm.out; omega)⟩
      obtain ⟨off, hA', hbl, c0, c1⟩ := Ht.out.at_ hx
      subst hA'
      have d0 := (hnx.cell (p := ⟨b, off + p * 2, none⟩) hb).trans c0
      have d1 := (hnx.cell (p := ⟨b, off + p * 2 + 1, none⟩) hb).trans c1
      simp only at d0 d1
      obtain ⟨hg1, hg2, hg3⟩ := ptOk_all HOk.out hx
      simp only at hg1 hg2 hg3
      obtain ⟨pn, rfl⟩ : ∃ pn : Nat, pg = (pn : Int) := ⟨pg.toNat, by omega⟩
      have hrn : rN t p = pn := by rw [hg3]; exact Int.toNat_natCast pn
      have hJa := hJ _ wr (wr.alloc (.cells #[.int .i64 lv, .int .i64 (pn : Int)] 31)) none hJs (World.grownBy_alloc wr _ none) (fun r e => by cases e)
      have Hrn := Lib.hid hrn
      have hnx2 : Below n₀ W (wr.alloc (.cells #[.int .i64 lv, .int .i64 (pn : Int)] 31)) := hnx.alloc (by omega) _
      have hsz2 : W.heap.size ≤ (wr.alloc (.cells #[.int .i64 lv, .int .i64 (pn : Int)] 31)).heap.size := by rw [World.size_alloc]; omega
      have hp16 : pn ≤ 16 := by omega
      clear hx c0 c1 hg1 hg2 hg3 hrn hJs
      gi_wp2
      gi_loopw [3, 15] (fun fr i wv => ∃ (k : Nat), k ≤ pn ∧ i = .int .i64 (k : Int) ∧ fr = .int .i64 ((tot t p + k : Nat) : Int) ∧ J (dlt t p k) wv ∧ Below n₀ W wv ∧ W.heap.size ≤ wv.heap.size)
        (fun _ i _ => pn - (intOf i).toNat)
      case atStart => exact ⟨0, Nat.zero_le _, rfl, rfl, hJa, hnx2, hsz2⟩
      case round =>
        obtain ⟨k, hk, rfl, rfl, hJs, hnx, hsz⟩ := hrel
        by_cases hlk : k < pn
        · obtain ⟨fn, tmps, assign, body, hy, hR⟩ := hY _ (p, tot t p + k) _ hJs (by rw [dlt_len]; omega)
          have henc : denc m (p, tot t p + k) = #[.int .i64 (p : Int), .int .i64 ((tot t p + k : Nat) : Int)] := by
            unfold denc
            rw [Nat.min_eq_left (by simp only; omega)]
          rw [henc] at hy
          have HD := Lib.hid (dlt_next t p k)
          rw [← HD.out] at hR
          have hwf : IntKind.i64.wrap (((tot t p + k : Nat) : Int) + 1) = ((tot t p + k : Nat) : Int) + 1 := IntWalk.i64_in _ (by omega)
          have hcast : Hid (((tot t p + k : Nat) : Int) + 1 = ((tot t p + (k + 1) : Nat) : Int)) := Lib.hid (by omega)
          clear henc hbt
          generalize ((tot t p + k : Nat) : Int) = tk at *
          gi_wp2
          refine hR.mono ?_
          rintro e W3 (⟨rfl, hJ3, hk3⟩ | ⟨rfl, hJx3⟩)
          · have hz3 := hk3.size
            gi_wp2
            go_roundw
            case rel => exact ⟨k + 1, by omega, by go_num, by rw [hcast.out], hJ3, hnx.trans hk3, by omega⟩
            case measure => simp [intOf]; omega
          · gi_wp2
            refine bodyPost_ret (results_none rfl _ _ _) rfl ?_
            exact ⟨⟨_, rfl⟩, .inr ⟨_, ⟨p, k + 1, rfl⟩, hJx3⟩⟩
        · have hkp : k = pn := by omega
          subst hkp
          have hrow := dlt_row t p
          rw [Hrn.out] at hrow
          have Hrow := Lib.hid hrow
          have HT := Lib.hid (show ((tot t p + k : Nat) : Int) = ((tot t (p + 1) : Nat) : Int) by rw [tot_succ, Hrn.out])
          clear hrow
          rw [HT.out]
          gi_wp2
          go_roundw
          case rel => exact ⟨p + 1, by omega, by go_num, rfl, by rw [Hrow.out]; exact hJs, hnx, hsz⟩
          case measure => simp [intOf]; omega
    · have hpm : p = m := by omega
      subst hpm
      gi_wp2
      go_end0
      exact ⟨⟨_, rfl⟩, .inl ⟨_, rfl, hJs⟩⟩
theorem dealt_stops (F : Fence) (nf : Nat) (h90 : F.fn 61) (hro : F.round = none) (hn : 1 ≤ nf) (kb n₀ m cap b : Nat) (A : Option Addr) (t : List Pg) (hok : t.all ptOk = true) (hm : m = t.length) (hm8 : m ≤ 8) (w : World) (hkb : Blk w kb 32 #[.slice A m cap]) (ht : Tb w b (.slice A m cap) t) (hb : b < n₀) (hn₀ : n₀ ≤ w.heap.size) :
    SeqStopsK F nf Tryz.prog 61 #[ptr kb] (denc m) (Below n₀) (fun ys => ys = dlt t m 0) (fun pre => ∃ p k, pre = dlt t p k) 200 w := fun l J Jx W hW hJ _ hY h0 =>
  dealt1_in F nf h90 hro hn l kb n₀ m cap b A t hok hm hm8 J Jx hY W hJ ((hkb.below hW hkb.lt).cell 0) (ht.fr (Fr.of_below (S := []) hW (Nat.le_refl _)) (by simp)) hb (Nat.le_trans hn₀ hW.size) h0
theorem dealt_any (A : Option Addr) (m cap : Nat) (w : World) : Calls Tryz.prog 32 #[.slice A m cap] w fun e w' => e = .returned (.func (.func 61) #[] #[ptr w.heap.size]) ∧ w' = w.alloc (.cells #[.slice A m cap] 32) := by
  go_enter Tryz.func32, Tryz.ntmps32
  go_wp2
  go_ret
  exact ⟨rfl, rfl⟩
end Go.Proofs.YtbmaecdlkchkeaaGreatDoor
namespace Go.Proofs.YtbmaecdlkchkeaaGreatDoor
open Go.RowKit Go.Shelf
set_option linter.unusedVariables false
set_option linter.unusedSimpArgs false
set_option maxRecDepth 100000
theorem Tryz.info3 : (Tryz.prog.info? 3).map (fun i => (i.zero, i.size, i.bytes)) = some (some (.int .i64 0), 1, 8) := by kernel_rfl
/-- A make of numbers: noughts. -/
theorem make_ints (n : Nat) (hn : n ≤ 8) : ∃ Z : Array Value, (∀ w : World, (Instr.makeSlice 47 (.int .i64 n) (.int .i64 n)).run Tryz.prog w = .ok (.slice (some ⟨w.heap.size, 0, none⟩) n n) (w.alloc (.cells Z 3))) ∧ ∀ j, j < n → Z[j]? = some (.int .i64 0) := by
  obtain ⟨i0, hi0, hz0, hz1, hz2⟩ := info3 Tryz.info3
  refine ⟨madeCells (Value.int .i64 0).cells (n * 1), fun w => ?_, fun j hj => ?_⟩
  · have := run_make (P := Tryz.prog) w 47 3 i0 _ Tryz.underlying47 hi0 hz0 .i64 .i64 n n (by omega) (by omega) (by rw [hz2]; omega) (by omega)
    rw [hz1] at this
    simpa using this
  · simp [madeCells, Value.cells, hj, Nat.mod_one]
/-- The ends that the body has stored. -/
def enF (m : Nat) (pre : List (Nat × Nat)) : (Nat → Nat) × Nat := pre.foldl (fun s x => (fun j => if j = min x.1 (m - 1) then s.2 + 1 else s.1 j, s.2 + 1)) (fun _ => 0, 0)
theorem enF_snoc (m : Nat) (pre : List (Nat × Nat)) (x : Nat × Nat) : enF m (pre ++ [x]) = (fun j => if j = min x.1 (m - 1) then (enF m pre).2 + 1 else (enF m pre).1 j, (enF m pre).2 + 1) := by
  unfold enF
  rw [List.foldl_append]
  rfl
theorem enF_two (m : Nat) (pre : List (Nat × Nat)) : (enF m pre).2 = pre.length := by
  have H : ∀ (pre : List (Nat × Nat)) (s : (Nat → Nat) × Nat), (pre.foldl (fun (s : (Nat → Nat) × Nat) (x : Nat × Nat) => (fun j => if j = min x.1 (m - 1) then s.2 + 1 else s.1 j, s.2 + 1)) s).2 = s.2 + pre.length := by
    intro pre
    induction pre with
    | nil => intro s; rfl
    | cons x pre ih =>
      intro s
      rw [List.foldl_cons, ih]
      simp only [List.length_cons]
      omega
  unfold enF
  rw [H]
  simp
theorem enF_dlt {t : List Pg} (hok : t.all ptOk = true) {m : Nat} (hm : m = t.length) : ∀ p, p ≤ m → ∀ j, j < m → (enF m (dlt t p 0)).1 j = if j < p then tot t (j + 1) else 0 := by
  intro p
  induction p with
  | zero => intro _ j hj; rfl
  | succ p ih =>
    intro hp j hj
    obtain ⟨q, hq⟩ : ∃ q, t[p]? = some q := ⟨_, List.getElem?_eq_getElem (by omega)⟩
    obtain ⟨g1, g2, g3⟩ := ptOk_all hok hq
    have hr : ∀ k, (enF m (dlt t p k)).1 j = if j < p then tot t (j + 1) else if j = p then (if k = 0 then 0 else tot t p + k) else 0 := by
      intro k
      induction k with
      | zero =>
        rw [ih (by omega) j hj]
        split
        · rfl
        · simp
      | succ k ihk =>
        rw [dlt_next, enF_snoc, enF_two, dlt_len]
        simp only
        rw [Nat.min_eq_left (by omega)]
        by_cases hjp : j = p
        · subst hjp
          rw [if_pos rfl, if_neg (by omega), if_pos rfl, if_neg (by omega)]
          omega
        · rw [if_neg hjp, ihk, if_neg hjp]
          split
          · rfl
          · rfl
    rw [dlt_row, hr]
    by_cases hjp : j < p
    · rw [if_pos hjp, if_pos (by omega)]
    · rw [if_neg hjp]
      by_cases hje : j = p
      · subst hje
        rw [if_pos rfl, if_neg (by omega), if_pos (by omega), tot_succ]
      · rw [if_neg hje, if_neg (by omega)]
theorem dlt_snd (t : List Pg) : ∀ p k, (dlt t p k).map (·.2) = List.range (tot t p + k) := by
  intro p
  induction p with
  | zero =>
    intro k
    induction k with
    | zero => rfl
    | succ k ih => rw [dlt_next, List.map_append, ih, show tot t 0 + (k + 1) = (tot t 0 + k) + 1 from by omega, List.range_succ]; rfl
  | succ p ih =>
    intro k
    induction k with
    | zero => rw [dlt_row, ih, tot_succ]; rfl
    | succ k ihk => rw [dlt_next, List.map_append, ihk, show tot t (p + 1) + (k + 1) = (tot t (p + 1) + k) + 1 from by omega, List.range_succ]; rfl
/-- The page that is dealt. -/
def pgOf (x : Nat × Nat) : Pg := ⟨x.2, 3⟩
/-- What New's walk keeps. -/
structure NwI (w : World) (m s : Nat) (pre : List (Nat × Nat)) (W : World) : Prop where
  own : ∃ v, Blk W s 43 #[v] ∧ W.ownsRow w.heap.size 82 2 v pre.length (cellsT (pre.map pgOf))
  hdr : Blk W (s + 2) 47 #[.slice (some ⟨s + 1, 0, none⟩) m m]
  ends : ∃ cs, Blk W (s + 1) 3 cs ∧ ∀ j, j < m → cs[j]? = some (.int .i64 ((enF m pre).1 j : Int))
  fr : Fr [] w W
theorem NwI.from_ {w : World} {m s B : Nat} (hB : w.heap.size ≤ B) : OwnFrom B (NwI w m s) := by
  rintro pre W W' row ⟨⟨v, hv, ho⟩, h2, ⟨cs, h3, h4⟩, h5⟩ hg hr
  exact ⟨⟨v, blk_grown hv hg hr, own_grown ho hg hr⟩, blk_grown h2 hg hr, ⟨cs, blk_grown h3 hg hr, h4⟩, ownFrom_fr (β := Unit) hB () W W' row h5 hg hr⟩
/-- What the append keeps. -/
theorem NwI.app {w W w'' : World} {m s : Nat} {pre : List (Nat × Nat)} {v : Value} {y : Nat × Nat} (hI : NwI w m s pre W) (hv : Blk W s 43 #[v])
    (hX : (W.alloc (.cells #[.int .i64 y.2, .int .i64 3] 82)).ownsRow w.heap.size 82 2 v pre.length (cellsT (pre.map pgOf)))
    (hg : (W.alloc (.cells #[.int .i64 y.2, .int .i64 3] 82)).grownBy w'' v.ownBlock) :
    Blk w'' s 43 #[v] ∧ Blk w'' (s + 2) 47 #[.slice (some ⟨s + 1, 0, none⟩) m m] ∧ (∃ cs, Blk w'' (s + 1) 3 cs ∧ ∀ j, j < m → cs[j]? = some (.int .i64 ((enF m pre).1 j : Int))) ∧ KeepsOthers W w'' ∧ Below w.heap.size W w'' ∧ Fr [] w w'' := by
  obtain ⟨-, h2, ⟨cs, h3, h4⟩, h5⟩ := hI
  have hbl := own_blk hX
  have hf : Fr v.ownBlock.toList (W.alloc (.cells #[.int .i64 y.2, .int .i64 3] 82)) w'' := Fr.of_own hg
  have hfW : Fr [] W (W.alloc (.cells #[.int .i64 y.2, .int .i64 3] 82)) := (Fr.refl [] W).alloc _
  have hne : ∀ {k t cs}, Blk W k t cs → t ≠ 82 → k ∉ v.ownBlock.toList := by
    intro k t cs hb ht hm
    obtain ⟨_, cs', hb'⟩ := hbl k hm
    exact ht ((hb.fr hfW (by simp)).eq hb').1
  refine ⟨(hv.fr hfW (by simp)).fr hf (hne hv (by decide)), (h2.fr hfW (by simp)).fr hf (hne h2 (by decide)), ⟨cs, (h3.fr hfW (by simp)).fr hf (hne h3 (by decide)), h4⟩, KeepsOthers.trans (KeepsOthers.of_fr hfW (by simp)) (KeepsOthers.of_fr hf (fun k hk => by obtain ⟨_, cs, hb⟩ := hbl k hk; exact ⟨82, cs, hb⟩)), ?_, (h5.trans hfW).own hX hg⟩
  exact (hfW.below h5.size (by simp)).trans (hf.below (Nat.le_trans h5.size hfW.size) (fun k hk => (hbl k hk).1))
/-- What the two stores keep. -/
theorem NwI.put {w W w'' : World} {m s : Nat} {pre : List (Nat × Nat)} {v x' : Value} {y : Nat × Nat} {cs : Array Value} (hs : w.heap.size ≤ s) (hm : 1 ≤ m) (hv : Blk w'' s 43 #[v]) (h2 : Blk w'' (s + 2) 47 #[.slice (some ⟨s + 1, 0, none⟩) m m]) (h3 : Blk w'' (s + 1) 3 cs) (h4 : ∀ j, j < m → cs[j]? = some (.int .i64 ((enF m pre).1 j : Int)))
    (hK : KeepsOthers W w'') (hB : Below w.heap.size W w'') (hF : Fr [] w w'')
    (ho : w''.ownsRow w.heap.size 82 2 x' (pre.length + 1) (cellsT (pre.map pgOf) ++ [.int .i64 y.2, .int .i64 3])) :
    let W' := (w''.setCell ⟨s, 0, none⟩ x').setCell ⟨s + 1, min y.1 (m - 1), none⟩ (.int .i64 ((pre.length + 1 : Nat) : Int))
    KeepsOthers W W' ∧ Below w.heap.size W W' ∧ NwI w m s (pre ++ [y]) W' := by
  intro W'
  have hF2 : Fr [s, s + 1] w'' W' := ((Fr.refl [s, s + 1] w'').setCell (.inl (by simp)) _).setCell (.inl (by simp)) _
  refine ⟨(hK.trans (KeepsOthers.setCell _ _ _)).trans (KeepsOthers.setCell _ _ _), (hB.trans ((Below.refl _ _).setCell hs _)).trans ((Below.refl _ _).setCell (show w.heap.size ≤ s + 1 by omega) _), ⟨x', ?_, ?_⟩, ?_, ⟨_, (h3.far (by simp) _).set_ (min y.1 (m - 1)) _, fun j hj => ?_⟩, (hF.setCell (.inr hs) _).setCell (.inr (show w.heap.size ≤ s + 1 by omega)) _⟩
  · exact (hv.set_ 0 x').far (by simp) _
  · rw [List.length_append, List.map_append]
    have : cellsT (pre.map pgOf ++ [y].map pgOf) = cellsT (pre.map pgOf) ++ [.int .i64 y.2, .int .i64 3] := by unfold cellsT; rw [List.flatMap_append]; rfl
    rw [this]
    exact own_fr ho hF2 (fun k hk cs hb => by
      simp at hk
      rcases hk with rfl | rfl
      · exact absurd (hb.eq hv).1 (by decide)
      · exact absurd (hb.eq h3).1 (by decide))
  · exact (h2.far (by simp) _).far (by simp) _
  · have hsz : ∀ j, j < m → j < cs.size := fun j hj => (Array.getElem?_eq_some_iff.1 (h4 j hj)).1
    rw [enF_snoc, enF_two, Array.getElem?_setIfInBounds]
    simp only
    by_cases hje : j = min y.1 (m - 1)
    · subst hje
      rw [if_pos rfl, if_pos rfl, if_pos (hsz _ hj)]
    · rw [if_neg (Ne.symm hje), if_neg hje, h4 j hj]
end Go.Proofs.YtbmaecdlkchkeaaGreatDoor
namespace Go.Proofs.YtbmaecdlkchkeaaGreatDoor
open Go.RowKit Go.Shelf
attribute [local go_sem] Oper.semAt_some
set_option linter.unusedVariables false
set_option linter.unusedSimpArgs false
set_option maxRecDepth 100000
theorem cut_pages (g N cp lo hi : Nat) (h1 : lo < hi) (h2 : hi ≤ cp) (w : World) : (Instr.slice 43 (.slice (some ⟨g, 0, none⟩) N cp) (some (.int .i64 (lo : Int))) (some (.int .i64 (hi : Int))) (some (.int .i64 (hi : Int)))).run Tryz.prog w = .ok (.slice (some ⟨g, lo * 2, none⟩) (hi - lo) (hi - lo)) w := by
  obtain ⟨i0, hi0, hz0, hz1, hz2⟩ := info3 Tryz.info82
  have e : Tryz.prog.elem 43 = 82 := by kernel_rfl
  have h := run_slice_lhm (P := Tryz.prog) w 43 (some ⟨g, 0, none⟩) N cp (by kernel_rfl) .i64 .i64 .i64 (lo : Int) (hi : Int) (hi : Int) (by omega) (by omega) (Int.le_refl _) (by omega)
  rw [h, e]
  simp [go_sem, hi0, hz1, sliced]
  omega
/-- The new space. -/
def rowN (t : List Pg) (j : Nat) : List Pg := (List.range (rN t j)).map fun i => ⟨((tot t j + i : Nat) : Int), 3⟩
def spNew (t : List Pg) : Sp := ⟨⟨tot t t.length, fun _ => 0⟩, (List.range t.length).map (rowN t)⟩
def NewP (w : World) (t : List Pg) (e : Ending) (w' : World) : Prop := ∃ s p F g, e = .returned (.tuple #[ptr s, .int .i64 0]) ∧ SpAt w' s p F g (spNew t) ∧ Fr [] w w' ∧ w.heap.size ≤ s ∧ w.heap.size ≤ p ∧ w.heap.size ≤ F ∧ w.heap.size ≤ g
/-- The pages of all tables. -/
theorem pgs_at (t : List Pg) (m i : Nat) (h : i < tot t m) : ((dlt t m 0).map pgOf)[i]? = some ⟨(i : Int), 3⟩ := by
  have h1 : ((dlt t m 0).map (·.2))[i]? = some i := by rw [dlt_snd, List.getElem?_range (by omega)]
  rw [List.getElem?_map] at h1 ⊢
  cases hx : (dlt t m 0)[i]? with
  | none => rw [hx] at h1; cases h1
  | some x =>
    rw [hx] at h1
    simp at h1
    simp [pgOf, h1]
theorem tot_mono {t : List Pg} {j k : Nat} (h : j ≤ k) : tot t j ≤ tot t k := by
  induction k with
  | zero => rw [Nat.le_zero.1 h]; exact Nat.le_refl _
  | succ k ih =>
    rcases Nat.lt_or_ge k j with h1 | h1
    · rw [show j = k + 1 by omega]; exact Nat.le_refl _
    · rw [tot_succ]; have := ih h1; omega
/-- A table out of the pages of all. -/
theorem row_at {t : List Pg} {m j g : Nat} {W : World} (hP : PB W g ((dlt t m 0).map pgOf)) (hj : j < m) (h16 : rN t j ≤ 16) (h1 : 1 ≤ rN t j) : TbT W (.slice (some ⟨g, tot t j * 2, none⟩) (rN t j) (rN t j)) (rowN t j) := by
  have hlt := hP.lt
  obtain ⟨cs, hb, -⟩ := id hP
  have hl : (rowN t j).length = rN t j := by unfold rowN; simp
  have hm : tot t (j + 1) ≤ tot t m := tot_mono hj
  rw [tot_succ] at hm
  refine ⟨_, rN t j, by rw [hl], by omega, by simp only [maxLen]; omega, (fun h => by cases h), g, cs, _, hb, (by rw [hl]; simp only [maxLen]; omega), _, rN t j, (by rw [hl]), fun i p hi => ?_⟩
  have hil : i < rN t j := by have := (List.getElem?_eq_some_iff.1 hi).1; omega
  have hp : p = ⟨((tot t j + i : Nat) : Int), 3⟩ := by
    unfold rowN at hi
    rw [List.getElem?_map, List.getElem?_range hil] at hi
    injection hi with hi
    exact hi.symm
  subst hp
  obtain ⟨c0, c1⟩ := hP.cells (pgs_at t m (tot t j + i) (by omega))
  exact ⟨tot t j * 2, rfl, hlt, by rw [← c0]; congr 2; omega, by rw [← c1]; congr 2; omega⟩
/-- The values of the tables. -/
def valsN (t : List Pg) (g j : Nat) : List Value := (List.range j).map fun i => .slice (some ⟨g, tot t i * 2, none⟩) (rN t i) (rN t i)
theorem valsN_succ (t : List Pg) (g j : Nat) : valsN t g (j + 1) = valsN t g j ++ [.slice (some ⟨g, tot t j * 2, none⟩) (rN t j) (rN t j)] := by
  unfold valsN
  rw [List.range_succ, List.map_append]
  rfl
/-- What the last loop keeps. -/
structure NwL (W1 : World) (p gP : Nat) (t : List Pg) (j : Nat) (A : Option Addr) (c : Nat) (wr : World) : Prop where
  hb : Blk wr W1.heap.size 87 #[ptr p, .slice A j c]
  own : wr.ownsRow (W1.heap.size + 1) 43 1 (.slice A j c) j (valsN t gP j)
  fr : Fr [] W1 wr
theorem NwL.done {W1 wr : World} {p F gP m c : Nat} {A : Option Addr} {t : List Pg} (h : NwL W1 p gP t m A c wr) (hok : t.all ptOk = true) (hm : m = t.length) (h1 : 1 ≤ m) (h8 : m ≤ 8) (hM : MemAt W1 p F ⟨tot t m, fun _ => 0⟩) (hP : PB W1 gP ((dlt t m 0).map pgOf)) : ∃ g, SpAt wr W1.heap.size p F g (spNew t) ∧ W1.heap.size ≤ g := by
  obtain ⟨hb, ho, hf⟩ := h
  have hl : (spNew t).tb.length = m := by unfold spNew; simp [hm]
  have hr : ∀ j, j < m → 1 ≤ rN t j ∧ rN t j ≤ 16 := fun j hj => by
    obtain ⟨q, hq⟩ : ∃ q, t[j]? = some q := ⟨_, List.getElem?_eq_getElem (by omega)⟩
    obtain ⟨g1, g2, g3⟩ := ptOk_all hok hq
    omega
  have hv : (Value.slice A m c) ≠ .slice none 0 0 := by
    intro hv
    injection hv with _ hv _
    omega
  have htb : ∀ (i : Nat) (u : List Pg), (spNew t).tb[i]? = some u → i < m ∧ u = rowN t i := fun i u hi => by
    have hil : i < m := by have := (List.getElem?_eq_some_iff.1 hi).1; omega
    refine ⟨hil, ?_⟩
    unfold spNew at hi
    simp only at hi
    rw [List.getElem?_map, List.getElem?_range (by omega)] at hi
    injection hi with hi
    exact hi.symm
  obtain ⟨g', cap, cs', e, q1, q2, q3, q4, q5⟩ := own_some ho hv
  injection e with e1 _ e2
  subst e1 e2
  refine ⟨g', SpAt.mk' (by rw [hl]; exact hb) (by omega) q3 (by rw [show (spNew t).st = ⟨tot t m, fun _ => 0⟩ from by unfold spNew; rw [hm]]; exact hM.to hf (by simp) (by simp)) ⟨cs', q4, fun i u hi => ?_⟩ (by omega) (by omega) (fun i u hi => ?_), by omega⟩
  · obtain ⟨hil, rfl⟩ := htb i u hi
    refine ⟨_, q5 i _ (by unfold valsN; rw [List.getElem?_map, List.getElem?_range hil]; rfl), row_at (hP.fr hf (by simp)) hil (hr i hil).2 (hr i hil).1⟩
  · obtain ⟨hil, rfl⟩ := htb i u hi
    unfold rowN
    simpa using (hr i hil).2
/-- A code that does not panic, in a function with a mark among its defers. -/
theorem wp_calm {P : Program} {c : Code} {K : Act → World → Prop} {Q : Exit → Act → World → Prop} {a : Act} {w : World} (h : c.wp P (Exit.then K (fun _ _ _ => False)) a w) : c.wp P (Exit.then K Q) a w :=
  Code.wp_mono (fun e a w h => by
    cases e with
    | normal => exact h
    | _ => exact False.elim h) h
def NwA (w : World) (m s : Nat) (x : Nat × Nat) (a' : Act) (W : World) : Prop :=
  ∃ ts : Array Value, a' = { tmps := ts, defers := [] } ∧ ts.size = 75 ∧ ts.getD 5 undef = ptr s ∧ ts.getD 6 undef = ptr (s + 2) ∧ ts.getD 7 undef = .int .i64 ((min x.1 (m - 1) : Nat) : Int) ∧ ts.getD 8 undef = .int .i64 (x.2 : Int)
set_option maxHeartbeats 4000000 in
theorem SNew_ok (b m cap : Nat) (A : Option Addr) (t : List Pg) (w : World) (ht : Tb w b (.slice A m cap) t) (hE : ptsE t = 0) : Calls Tryz.prog 7 #[.slice A m cap] w (NewP w t) := by
  have hm := ht.n_eq
  have hok : (1 ≤ m ∧ m ≤ 8) ∧ t.all ptOk = true := by
    unfold ptsE at hE
    split at hE
    · next h => exact ⟨by omega, h.2⟩
    · omega
  obtain ⟨⟨h1, h8⟩, hok⟩ := hok
  have hbw : b < w.heap.size := by
    obtain ⟨q, hq⟩ : ∃ q, t[0]? = some q := ⟨_, List.getElem?_eq_getElem (by omega)⟩
    obtain ⟨off, -, hb, -⟩ := ht.at_ hq
    exact hb
  have hml := ht.len
  have HI := Lib.hid (fun W => in_any (m : Int) 1 8 W)
  have HC := Lib.hid (containsQ_any b m cap A t w ht h8)
  rw [hok] at HC
  have E3 : (decide ((1 : Int) ≤ (m : Int)) && decide ((m : Int) ≤ 8)) = true := by
    rw [Bool.and_eq_true, decide_eq_true_eq, decide_eq_true_eq]
    omega
  rw [E3] at HI
  have H := Lib.hid ht
  have HM := Lib.hid hm
  have HOk := Lib.hid hok
  obtain ⟨Z, hmk, hz⟩ := make_ints m h8
  have Hz := Lib.hid hz
  obtain ⟨i0, hi0, hz0, hz1, hz2⟩ := info3 Tryz.info82
  obtain ⟨j0, hj0, jz0, jz1, jz2⟩ := info3 Tryz.info43
  have H1 := Lib.hid h1
  obtain ⟨Po, hPo⟩ : ∃ Po, NewP w t = Po := ⟨_, rfl⟩
  rw [hPo]
  have HPo := Lib.hid hPo
  clear ht hE E3 hm hok hz hPo h1
  refine (callsIn_wide (n := 3)).1 ?_
  refine callsIn_of_wp_marks Tryz.func7 rfl trivial (wpIn_wide.2 ?_)
  simp only [Tryz.ntmps7, List.size_toArray, List.length_cons, List.length_nil, Nat.reduceAdd, Nat.reduceSub, Array.replicate_succ, Array.replicate_zero, List.push_toArray, List.append_toArray, List.nil_append, List.cons_append]
  go_wp2_with (first
    | (go_at_call 30; refine (HI.out _).mono ?_; rintro e w1 ⟨rfl, rfl⟩)
    | (go_at_call 31; refine HC.out.mono ?_; rintro e w1 ⟨rfl, hf1⟩)
    | (go_at_call 32; refine (dealt_any A m cap _).mono ?_; rintro e w' ⟨rfl, rfl⟩)
    | fail)
  rename_i K0 hK0
  have HK0 := Lib.hid hK0
  clear hK0
  have hsz1 := hf1.size
  have bA := Blk.new w1 43 #[.slice none 0 0]
  have bZ := Blk.new (w1.alloc (.cells #[.slice none 0 0] 43)) 3 Z
  have bH := Blk.new ((w1.alloc (.cells #[.slice none 0 0] 43)).alloc (.cells Z 3)) 47 #[.slice (some ⟨w1.heap.size + 1, 0, none⟩) m m]
  have bK := Blk.new (((w1.alloc (.cells #[.slice none 0 0] 43)).alloc (.cells Z 3)).alloc (.cells #[.slice (some ⟨w1.heap.size + 1, 0, none⟩) m m] 47)) 32 #[.slice A m cap]
  simp only [World.size_alloc] at bA bZ bH bK
  obtain ⟨W0, hW0⟩ : ∃ W0, (((w1.alloc (.cells #[.slice none 0 0] 43)).alloc (.cells Z 3)).alloc (.cells #[.slice (some ⟨w1.heap.size + 1, 0, none⟩) m m] 47)).alloc (.cells #[.slice A m cap] 32) = W0 := ⟨_, rfl⟩
  have hI0 : NwI w m w1.heap.size [] W0 := by
    rw [← hW0]
    exact ⟨⟨_, ((bA.alloc _).alloc _).alloc _, World.ownsRow_nil _ _ _ _⟩, bH.alloc _, ⟨Z, (bZ.alloc _).alloc _, fun j hj => Hz.out j hj⟩, (((hf1.alloc _).alloc _).alloc _).alloc _⟩
  have hszE : W0.heap.size = w1.heap.size + 4 := by rw [← hW0]; simp only [World.size_alloc]
  rw [hW0] at bK ⊢
  clear hW0 bA bZ bH hmk
  generalize hs : w1.heap.size = s at *
  rw [show s + 1 + 1 = s + 2 from rfl, show s + 2 + 1 = s + 3 from rfl] at *
  have hfW := hI0.fr
  refine (wpIn_wide (n := 3)).1 ?_
  refine wpIn_rangeFunc_ownH rfl (by omega) (gf := 61) (lb := #[ptr (s + 3)]) rfl trivial (enters_of Tryz.func61 (by kernel_rfl) rfl)
    (dealt_stops Fence.wide (3 - 1) trivial rfl (by omega) (s + 3) w.heap.size m cap b A t HOk.out HM.out h8 W0 bK (H.out.fr hfW (by simp)) hbw (by omega)) (fun h k => h.trans k) (belowK_b (by omega)) (Below.refl _ _) (fun x => rfl)
    (NwI w m s) (fun _ _ _ => False) (NwI.from_ (by omega)) (fun c => fun _ _ _ _ h _ _ => h) hI0
    (NwA w m s) (fun x a' => fun _ X Y row hs hg hr => hs)
    ?assign ?body ?done ?stop
  case assign =>
    rintro l' pre x W K hI hK
    unfold denc
    gi_wp2
    exact hK _ _ (KeepsFrom.refl _ _) (Below.refl _ _) hI ⟨_, rfl, rfl, rfl, rfl, rfl, rfl⟩
  case body =>
    rintro l' pre x a' W hl' ⟨rr, hrr⟩ hI ⟨⟨ts⟩, rfl, hs, h5, h6, h7, h8'⟩ hlt
    match ts, hs with
    | u0 :: u1 :: u2 :: u3 :: u4 :: u5 :: u6 :: u7 :: u8 :: u9 :: u10 :: u11 :: u12 :: u13 :: u14 :: u15 :: u16 :: u17 :: u18 :: u19 :: u20 :: u21 :: u22 :: u23 :: u24 :: u25 :: u26 :: u27 :: u28 :: u29 :: u30 :: u31 :: u32 :: u33 :: u34 :: u35 :: u36 :: u37 :: u38 :: u39 :: u40 :: u41 :: u42 :: u43 :: u44 :: u45 :: u46 :: u47 :: u48 :: u49 :: u50 :: u51 :: u52 :: u53 :: u54 :: u55 :: u56 :: u57 :: u58 :: u59 :: u60 :: u61 :: u62 :: u63 :: u64 :: u65 :: u66 :: u67 :: u68 :: u69 :: u70 :: u71 :: u72 :: u73 :: u74 :: [], _ =>
    have e5 : u5 = ptr s := h5
    have e6 : u6 = ptr (s + 2) := h6
    have e7 : u7 = .int .i64 ((min x.1 (m - 1) : Nat) : Int) := h7
    have e8 : u8 = .int .i64 (x.2 : Int) := h8'
    subst e5 e6 e7 e8
    clear h5 h6 h7 h8'
    have HI := Lib.hid hI
    obtain ⟨v, hv, ho⟩ := hI.own
    obtain ⟨A3, c3, rfl⟩ := own_shape ho
    have q0 := hv.cell 0
    have q0f := hv.frozen
    simp at q0
    have hlB := hv.lt
    have hsW := hI.fr.size
    have hX0 := own_fr ho ((Fr.refl [] W).alloc (.cells #[.int .i64 (x.2 : Int), .int .i64 3] 82)) (by simp)
    have HV := Lib.hid hv
    have HX := Lib.hid hX0
    have HN2 := Lib.hid (news2 (x := .int .i64 (x.2 : Int)) (y := .int .i64 3) ((Blk.new W 82 #[.int .i64 (x.2 : Int), .int .i64 3]).cell 0) ((Blk.new W 82 #[.int .i64 (x.2 : Int), .int .i64 3]).cell 1))
    have hmx : min x.1 (m - 1) < m := by have := H1.out; omega
    have HLW := Lib.hid hlt
    have HMX := Lib.hid hmx
    have hm1 : pre.length + 1 ≤ maxLen := by simp only [maxLen]; omega
    have hm2 : (pre.length + 1) * 16 ≤ 140737488355328 := by omega
    clear hI hv ho hX0 hlt
    gi_wp2_with (refine wpListIn_append_own _ rfl (.tmp 31) (.tmp 34) 43 rfl w.heap.size 82 i0 (.agg #[.int .i64 0, .int .i64 0]) 2 16 Tryz.underlying43 hi0 hz0 hz1 hz2 rfl (by decide) _ _ _ rfl HX.out ⟨W.heap.size, 0, none⟩ 1 1 [.int .i64 (x.2 : Int), .int .i64 3] rfl rfl HN2.out (by simp [Value.oneCell']) hm1 hm2 (by simp; omega) ?_; intro x' w4 hox4 hgx4 _; obtain ⟨A4, c4, rfl⟩ := own_shape hox4; obtain ⟨k1, k2, ⟨cs, k3, k4⟩, k5, k6, k7⟩ := NwI.app (y := x) HI.out HV.out HX.out hgx4; have q4 := k1.cell 0; have q4f := k1.frozen 0; have q5 := k2.cell 0; have q6 := (k3.cell (min x.1 (m - 1))).trans (k4 _ HMX.out); have q6f := k3.frozen (min x.1 (m - 1)); simp at q4 q5)
    obtain ⟨z1, z2, z3⟩ := NwI.put (y := x) (by omega) H1.out k1 k2 k3 k4 k5 k6 k7 hox4
    exact ⟨z1.from _, z2, z3⟩
  case done =>
    rintro D zs W hD rfl hI hK
    obtain ⟨v, hv, ho⟩ := hI.own
    have h2 := hI.hdr
    have hlen : (dlt t m 0).length = tot t m := dlt_len t m 0
    have hT1 : 1 ≤ tot t m := by
      obtain ⟨q, hq⟩ : ∃ q, t[0]? = some q := ⟨_, List.getElem?_eq_getElem (by have := HM.out; have := H1.out; omega)⟩
      obtain ⟨g1, g2, g3⟩ := ptOk_all HOk.out hq
      have h := tot_mono (t := t) (show 0 + 1 ≤ m from H1.out)
      rw [tot_succ] at h
      omega
    have hT2 := tot_le HOk.out m
    rw [show (dlt t m 0).length = ((dlt t m 0).map pgOf).length from (List.length_map _).symm] at ho
    obtain ⟨gP, cP, rfl, r1, r2, r3, r4⟩ := own_pb ho (by rw [List.length_map, hlen]; exact hT1)
    rw [List.length_map, hlen] at hv r2
    have hE : ∃ cs, Blk W (s + 1) 3 cs ∧ ∀ j, j < m → cs[j]? = some (.int .i64 (tot t (j + 1) : Int)) := by
      obtain ⟨cs, h3, h4⟩ := hI.ends
      exact ⟨cs, h3, fun j hj => by rw [h4 j hj, enF_dlt HOk.out HM.out m (Nat.le_refl _) j hj, if_pos hj]⟩
    obtain ⟨cs, h3, h4⟩ := hE
    have HN := Lib.hid (fun W => New_ok (tot t m) W hT1 (by omega))
    have HA := Lib.hid hv
    have HH := Lib.hid h2
    have HE := Lib.hid h3
    have HE4 := Lib.hid h4
    have HP := Lib.hid r4
    have HfW := Lib.hid hI.fr
    have HK := Lib.hid hK
    have HD := Lib.hid hD
    have q0 := hv.cell 0
    simp at q0
    have hbn : ∀ j, j < m → tot t j < tot t (j + 1) ∧ tot t (j + 1) ≤ cP ∧ rN t j ≤ 16 ∧ tot t (j + 1) - tot t j = rN t j ∧ tot t (j + 1) ≤ 128 := fun j hj => by
      obtain ⟨q, hq⟩ : ∃ q, t[j]? = some q := ⟨_, List.getElem?_eq_getElem (by have := HM.out; omega)⟩
      obtain ⟨g1, g2, g3⟩ := ptOk_all HOk.out hq
      have h := tot_mono (t := t) (show j + 1 ≤ m from hj)
      have h' := tot_succ t j
      omega
    have HB := Lib.hid hbn
    clear hI hv ho h2 h3 h4 r4 hK hT1 hT2 hlen hbn
    refine HK0.out _ _ ?_
    go_wp2_with (first
      | (go_at_call 33; refine (HN.out _).mono ?_; rintro e w4 ⟨rfl, hM4, hf4⟩; have kq := (((HH.out.fr hf4 (by simp)).alloc (.cells #[ptr (W.heap.size + 1), .slice none 0 0] 87))).cell 0; simp at kq)
      | fail)
    have HM4 := Lib.hid hM4
    have Hf4 := Lib.hid hf4
    have HSz := Lib.hid hf4.size
    have HL0 : Hid (NwL w4 (W.heap.size + 1) gP t 0 none 0 (w4.alloc (.cells #[ptr (W.heap.size + 1), .slice none 0 0] 87))) := Lib.hid ⟨Blk.new w4 87 _, World.ownsRow_nil _ _ _ _, (Fr.refl [] w4).alloc _⟩
    have HAr := Lib.hid (HA.out.fr hf4 (by simp))
    have HEr := Lib.hid (HE.out.fr hf4 (by simp))
    clear hM4 hf4
    go_loopg [12, 54] m (fun gg fr i wr => ∃ (j : Nat) (A : Option Addr) (c : Nat), j + gg = m ∧ i = .int .i64 (j : Int) ∧ fr = .int .i64 (tot t j : Int) ∧ NwL w4 (W.heap.size + 1) gP t j A c wr)
    case atStart => exact ⟨0, none, 0, by omega, rfl, rfl, HL0.out⟩
    case round =>
      obtain ⟨j, A5, c5, hj, rfl, rfl, hL⟩ := hrel
      have Hj := Lib.hid hj
      clear HL0 kq
      by_cases hlt : j < m
      · have hki : (j : Int) < (m : Int) := by omega
        obtain ⟨b1, b2, b3, b4, b5⟩ := HB.out j hlt
        obtain ⟨hb, ho, hf⟩ := hL
        have c0 := hb.cell 1
        have c00 := hb.cell 0
        simp at c0 c00
        have fz := hb.frozen 1
        have d0 := (HAr.out.fr hf (by simp)).cell 0
        simp at d0
        have d1 := ((HEr.out.fr hf (by simp)).cell j).trans (HE4.out j hlt)
        have hsl : ∀ wx, (Instr.slice 43 (.slice (some ⟨gP, 0, none⟩) (tot t m) cP) (some (.int .i64 (tot t j : Int))) (some (.int .i64 (tot t (j + 1) : Int))) (some (.int .i64 (tot t (j + 1) : Int)))).run Tryz.prog wx = .ok (.slice (some ⟨gP, tot t j * 2, none⟩) (rN t j) (rN t j)) wx := fun wx => by
          have := cut_pages gP (tot t m) cP (tot t j) (tot t (j + 1)) b1 b2 wx
          rwa [b4] at this
        have HV := Lib.hid (valsN_succ t gP j)
        have hwj : IntKind.i64.wrap ((j : Int) + 1) = (j : Int) + 1 := IntWalk.i64_in _ (by omega)
        have Hlt := Lib.hid hb.lt
        have hm1 : j + 1 ≤ maxLen := by simp only [maxLen]; omega
        have hm2 : (j + 1) * 24 ≤ 140737488355328 := by omega
        obtain ⟨V, hV⟩ : ∃ V, (Value.slice (some ⟨gP, tot t j * 2, none⟩) (rN t j) (rN t j)) = V := ⟨_, rfl⟩
        have hV1 : V.oneCell' = true := by rw [← hV]; rfl
        have hF3 : Fr [] wr (wr.alloc (.cells #[.slice (some ⟨gP, tot t j * 2, none⟩) (rN t j) (rN t j)] 43)).drew := ((Fr.refl [] wr).alloc _).drew
        have HF3 := Lib.hid hF3
        have HW2 := Lib.hid (own_fr ho hF3 (by simp))
        have c0a := ((Fr.refl [] wr).alloc (.cells #[.slice (some ⟨gP, tot t j * 2, none⟩) (rN t j) (rN t j)] 43)).cell_some c0 (by simp)
        have Hns := Lib.hid (news1 (((Blk.new wr 43 #[.slice (some ⟨gP, tot t j * 2, none⟩) (rN t j) (rN t j)]).drew).cell 0))
        have HBx := Lib.hid hb
        have HFx := Lib.hid hf
        have hbs : w4.heap.size + 1 ≤ ((wr.alloc (.cells #[.slice (some ⟨gP, tot t j * 2, none⟩) (rN t j) (rN t j)] 43)).drew).heap.size := by have := Hlt.out; show _ ≤ (wr.alloc _).heap.size; rw [World.size_alloc]; omega
        have hbt : wr.heap.size + 1 = ((wr.alloc (.cells #[.slice (some ⟨gP, tot t j * 2, none⟩) (rN t j) (rN t j)] 43)).drew).heap.size := by show _ = (wr.alloc _).heap.size; rw [World.size_alloc]
        clear hj hb hf ho hF3 b1 b2 b3 b4 hV hV1
        go_wp2_with fail
        refine wp_calm ?_
        go_region_law (first
          | (refine step_append_lies _ rfl (.tmp 62) (.tmp 68) 85 rfl (w4.heap.size + 1) 43 j0 (.slice none 0 0) 1 24 Tryz.underlying85 hj0 jz0 jz1 jz2 rfl (Nat.succ_pos 0) (.slice A5 j c5) j (valsN t gP j) (by simp [Act.eval]) HW2.out ⟨wr.heap.size, 0, none⟩ 1 1 [.slice (some ⟨gP, tot t j * 2, none⟩) (rN t j) (rN t j)] (by simp [Act.eval]) rfl Hns.out (by simp [Value.oneCell']) (Nat.succ_pos 0) hm1 hm2 hbs (wr.heap.size + 1) hbt.symm ?_
             intro g cc w6 ho4 hg4 hat4 hlt4
             have hB4 := (HBx.out.fr HF3.out (by simp)).fr (Fr.of_own hg4) (fun hk => by have := (own_blk HW2.out _ hk).1; omega)
             have hF4 : Fr [] w4 w6 := (HFx.out.trans HF3.out).step (Fr.of_own hg4) (fun j hj => .inr (by have := (own_blk HW2.out _ hj).1; omega))
             have hc4 := hB4.cell 1
             have hfz4 := hB4.frozen 1
             simp at hc4)
          | fail)
        all_goals
          have HL5 : Hid (NwL w4 (W.heap.size + 1) gP t (j + 1) (some ⟨g, 0, none⟩) cc (w6.setCell ⟨w4.heap.size, 1, none⟩ (.slice (some ⟨g, 0, none⟩) (j + 1) cc))) := Lib.hid ⟨hB4.set_ 1 _, by
            rw [HV.out]
            exact own_fr ho4 ((Fr.refl [w4.heap.size] w6).setCell (p := ⟨w4.heap.size, 1, none⟩) (.inl (by simp)) _) (fun j hj cs hbj => by
              simp at hj
              subst hj
              exact absurd (hB4.eq hbj).1 (by decide)), hF4.setCell (p := ⟨w4.heap.size, 1, none⟩) (.inr (Nat.le_refl _)) _⟩
          clear ho4 hg4 hat4 hlt4 hB4 hF4 hc4 hfz4
          go_wp2_with fail
          go_roundg (m - (j + 1))
          case measure => have := Hj.out; omega
          case rel => exact ⟨j + 1, some ⟨g, 0, none⟩, cc, by have := Hj.out; omega, by go_num, rfl, HL5.out⟩
      · have hki : ¬ (j : Int) < (m : Int) := by omega
        obtain rfl : j = m := by omega
        have hFz := hL.fr
        have hbl := hL.hb.lt
        obtain ⟨g', hS, hg'⟩ := hL.done HOk.out HM.out H1.out h8 HM4.out (HP.out.fr Hf4.out (by simp))
        have HS := Lib.hid hS
        have HFz := Lib.hid hFz
        clear hL hj hS hFz
        go_wp2_with fail
        have hKr : wr.heap[D]? = some (.deferred (some [])) := by
          have h1 := (Hf4.out.block D (Array.getElem?_eq_some_iff.1 HK.out).1 (by simp)).trans HK.out
          exact (HFz.out.block D (Array.getElem?_eq_some_iff.1 h1).1 (by simp)).trans h1
        have hD := HD.out
        have hFd : Fr [D] wr (wr.putObj D (.deferred none)) := Fr.of_grown (S := [D]) (grownBy_putObj' wr D _) (fun k e => by cases e; simp)
        have hfw : Fr [] w wr := (HfW.out.trans Hf4.out).trans HFz.out
        have hw0 := hfw.size
        have hn := HS.out.ne
        have hb := HS.out.blks
        refine ⟨by simp, .inl ⟨_, _, rfl, run_takeDeferred hKr, ?_⟩⟩
        refine ⟨.tuple #[ptr w4.heap.size, .int .i64 0], by simp [results, Tryz.f7, go_sem], ?_⟩
        rw [← HPo.out]
        have hDn : NoT 82 wr [D] := fun k hk cs mk he => by
          simp at hk
          subst hk
          rw [hKr] at he
          cases he
        have hd : ∀ {k : Nat} {t : TypeId} {cs : Array Value}, Blk wr k t cs → k ≠ D := fun {k t cs} hk e => by
          subst e
          unfold Blk at hk
          rw [hKr] at hk
          cases hk
        obtain ⟨⟨c1, g1⟩, ⟨c2, g2⟩, ⟨c3, g3⟩, ⟨c4, g4⟩⟩ := hb
        have hz4 := HSz.out
        have hzW := HfW.out.size
        exact ⟨_, _, _, _, rfl, HS.out.fr hFd (by simpa using hd g1) (by simpa using hd g2) (by simpa using hd g3) (by simpa using hd g4) hDn, hfw.putDef (by omega) hKr, by omega, by omega, by omega, by omega⟩
  case stop =>
    rintro D c pre W hD hpre ⟨⟩
end Go.Proofs.YtbmaecdlkchkeaaGreatDoor

/- A space: rows of pages; slices.Clone and slices.Clip of them; In, Table. -/
import Derived.Test.YtonongaakieciaaS1
import Derived.Lib.Hide
namespace Go.Proofs.Ytonongaakieciaa
open Go.RowKit
set_option linter.unusedVariables false
set_option linter.unusedSimpArgs false
set_option maxRecDepth 100000
/-- The cells of a table. -/
def cellsT (t : List Pg) : List Value := t.flatMap fun p => [.int .i64 p.f, .int .i64 p.r]
theorem cellsT_len (t : List Pg) : (cellsT t).length = t.length * 2 := by
  induction t with
  | nil => rfl
  | cons p t ih => simp [cellsT] at ih ⊢; omega
theorem cellsT_at : ∀ (t : List Pg) (i : Nat) (p : Pg), t[i]? = some p → (cellsT t)[i * 2]? = some (.int .i64 p.f) ∧ (cellsT t)[i * 2 + 1]? = some (.int .i64 p.r) := by
  intro t
  induction t with
  | nil => intro i p h; simp at h
  | cons q t ih =>
    intro i p h
    cases i with
    | zero => simp at h; subst h; exact ⟨rfl, rfl⟩
    | succ i =>
      have h1 := ih i p (by simpa using h)
      have e : cellsT (q :: t) = .int .i64 q.f :: .int .i64 q.r :: cellsT t := rfl
      rw [e]
      constructor
      · rw [show (i + 1) * 2 = i * 2 + 1 + 1 from by omega, List.getElem?_cons_succ, List.getElem?_cons_succ]; exact h1.1
      · rw [show (i + 1) * 2 + 1 = (i * 2 + 1) + 1 + 1 from by omega, List.getElem?_cons_succ, List.getElem?_cons_succ]; exact h1.2
theorem cellsT_one (t : List Pg) : ∀ u ∈ cellsT t, u.oneCell' = true := by
  intro u hu
  simp only [cellsT, List.mem_flatMap] at hu
  obtain ⟨p, _, hu⟩ := hu
  simp at hu
  rcases hu with rfl | rfl <;> rfl
theorem Tb.cells {w : World} {b off : Nat} {n cap : Nat} {t : List Pg} (h : Tb w b (.slice (some ⟨b, off, none⟩) n cap) t) : ∀ (j : Nat) (u : Value), (cellsT t)[j]? = some u → w.cell? ((⟨b, off, none⟩ : Addr).add j) = some u := by
  intro j u hu
  have hj : j < t.length * 2 := by have := (List.getElem?_eq_some_iff.1 hu).1; rwa [cellsT_len] at this
  obtain ⟨p, hp⟩ : ∃ p, t[j / 2]? = some p := ⟨_, List.getElem?_eq_getElem (by omega)⟩
  obtain ⟨off', hA, _, c0, c1⟩ := h.at_ hp
  injection hA with hA
  injection hA with _ ho
  subst ho
  obtain ⟨k0, k1⟩ := cellsT_at t (j / 2) p hp
  rw [addr_add]
  rcases Nat.mod_two_eq_zero_or_one j with hm | hm
  · have e : j / 2 * 2 = j := by omega
    rw [e] at k0 c0
    rw [k0] at hu
    injection hu with hu
    subst hu
    exact c0
  · have e : j / 2 * 2 + 1 = j := by omega
    rw [e] at k1
    rw [Nat.add_assoc, e] at c1
    rw [k1] at hu
    injection hu with hu
    subst hu
    exact c1
theorem Try.info61 : (Try.prog.info? 61).map (fun i => (i.zero, i.size, i.bytes)) = some (some (.agg #[.int .i64 0, .int .i64 0]), 2, 16) := by kernel_rfl
/-- A row of pages, in block g. -/
def PB (w : World) (g : Nat) (t : List Pg) : Prop := ∃ cs, Blk w g 61 cs ∧ ∀ (j : Nat) (p : Pg), t[j]? = some p → cs[j * 2]? = some (.int .i64 p.f) ∧ cs[j * 2 + 1]? = some (.int .i64 p.r)
section
variable {w w' : World} {g : Nat} {t : List Pg}
theorem PB.lt (h : PB w g t) : g < w.heap.size := by
  obtain ⟨cs, hb, -⟩ := h
  exact hb.lt
theorem PB.fr {S : List Nat} (h : PB w g t) (hf : Fr S w w') (hg : g ∉ S) : PB w' g t := by
  obtain ⟨cs, hb, hc⟩ := h
  exact ⟨cs, hb.fr hf hg, hc⟩
theorem PB.cells (h : PB w g t) {j : Nat} {p : Pg} (hj : t[j]? = some p) : w.cell? ⟨g, j * 2, none⟩ = some (.int .i64 p.f) ∧ w.cell? ⟨g, j * 2 + 1, none⟩ = some (.int .i64 p.r) := by
  obtain ⟨cs, hb, hc⟩ := h
  rw [hb.cell, hb.cell]
  exact hc j p hj
theorem PB.frozen (h : PB w g t) (i : Nat) : w.frozen? ⟨g, i, none⟩ = false := by
  obtain ⟨cs, hb, hc⟩ := h
  exact hb.frozen i
theorem PB.tb (h : PB w g t) {cap : Nat} (h1 : t.length ≤ cap) (h2 : cap ≤ maxLen) : TbT w (.slice (some ⟨g, 0, none⟩) t.length cap) t := by
  have hlt := h.lt
  have h' := h
  obtain ⟨cs, hb, hc⟩ := h
  refine ⟨_, cap, rfl, h1, h2, (fun h => by cases h), g, cs, _, hb, Nat.le_trans h1 h2, _, cap, rfl, fun i p hi => ⟨0, rfl, hlt, ?_⟩⟩
  obtain ⟨c0, c1⟩ := h'.cells hi
  rw [Nat.zero_add]
  exact ⟨c0, c1⟩
/-- A right is written. -/
theorem PB.set_ (h : PB w g t) {i : Nat} {p : Pg} (hi : t[i]? = some p) (r : Int) : PB (w.setCell ⟨g, i * 2 + 1, none⟩ (.int .i64 r)) g (t.set i ⟨p.f, r⟩) := by
  obtain ⟨cs, hb, hc⟩ := h
  have hsz := (Array.getElem?_eq_some_iff.1 (hc i p hi).2).1
  refine ⟨_, hb.set_ (i * 2 + 1) (.int .i64 r), fun j q hj => ?_⟩
  rw [List.getElem?_set] at hj
  rw [Array.getElem?_setIfInBounds, Array.getElem?_setIfInBounds]
  by_cases e : i = j
  · subst e
    rw [if_pos rfl] at hj
    split at hj
    · injection hj with hj
      subst hj
      exact ⟨by rw [if_neg (by omega)]; exact (hc i p hi).1, by rw [if_pos rfl, if_pos (by omega)]⟩
    · cases hj
  · rw [if_neg e] at hj
    obtain ⟨k0, k1⟩ := hc j q hj
    exact ⟨by rw [if_neg (by omega)]; exact k0, by rw [if_neg (by omega)]; exact k1⟩
end
theorem own_some {w : World} {base : Nat} {e : TypeId} {size : Nat} {v : Value} {n : Nat} {xs : List Value} (h : w.ownsRow base e size v n xs) (hv : v ≠ .slice none 0 0) :
    ∃ g cap cs, v = .slice (some ⟨g, 0, none⟩) n cap ∧ base ≤ g ∧ n ≤ cap ∧ cap ≤ maxLen ∧ Blk w g e cs ∧ ∀ (j : Nat) (u : Value), xs[j]? = some u → cs[j]? = some u := by
  rcases h.2 with ⟨h1, h2⟩ | ⟨g, cap, cur, rfl, hb, hh, h3, h4, h5, h6⟩
  · exact absurd h1 hv
  · refine ⟨g, cap, cur, rfl, hb, h3, h4, hh, fun j u hu => ?_⟩
    rw [← h6, List.getElem?_take] at hu
    split at hu
    · simpa using hu
    · cases hu

theorem own_pb {w : World} {B : Nat} {v : Value} {t : List Pg} (h : w.ownsRow B 61 2 v t.length (cellsT t)) (h0 : 1 ≤ t.length) : ∃ g cap, v = .slice (some ⟨g, 0, none⟩) t.length cap ∧ B ≤ g ∧ t.length ≤ cap ∧ cap ≤ maxLen ∧ PB w g t := by
  have hv : v ≠ .slice none 0 0 := by
    intro hv
    rcases h.2 with ⟨h1, h2⟩ | ⟨g, cap, cur, h1, -⟩
    · omega
    · rw [hv] at h1
      cases h1
  obtain ⟨g, cap, cs, rfl, h1, h2, h3, h4, h5⟩ := own_some h hv
  exact ⟨g, cap, rfl, h1, h2, h3, cs, h4, fun j p hj => ⟨h5 _ _ (cellsT_at t j p hj).1, h5 _ _ (cellsT_at t j p hj).2⟩⟩
theorem cloneP_any (t : List Pg) (A : Option Addr) (c : Nat) (w : World) (h : TbT w (.slice A t.length c) t) (h0 : 1 ≤ t.length) (h16 : t.length ≤ 16) : Calls Try.prog 59 #[.slice A t.length c] w fun e w' => ∃ g cap, e = .returned (.slice (some ⟨g, 0, none⟩) t.length cap) ∧ PB w' g t ∧ t.length ≤ cap ∧ cap ≤ maxLen ∧ Fr [] w w' ∧ w.heap.size ≤ g := by
  obtain ⟨i0, hi0, hz0, hz1, hz2⟩ := info3 Try.info61
  obtain ⟨A', c', e, h1, h2, h3, b, cb, mk, hb, ht⟩ := h
  injection e with e1 _ e2
  subst e1 e2
  obtain ⟨p0, hp0⟩ : ∃ p, t[0]? = some p := ⟨_, List.getElem?_eq_getElem (by omega)⟩
  obtain ⟨off, rfl, -⟩ := ht.at_ hp0
  have hf0 : Fr [] w (w.alloc (.cells #[] 61)) := (Fr.refl [] w).alloc _
  have hnil := fun w => Lib.run_eql_slice_nil (P := Try.prog) w 62 61 (some ⟨b, off, none⟩) t.length c 0 0 Try.underlying62
  have Hm0 := Lib.hid (World.ownsRow_made (base := w.heap.size) (e := 61) (size := 2) w #[] 0 (Nat.le_refl _) (by simp [maxLen]) (by simp))
  have Hc := Lib.hid ((ht.fr hf0 (by simp)).cells)
  have Hf0 := Lib.hid hf0
  have Hl := Lib.hid (cellsT_len t)
  have Ho := Lib.hid (cellsT_one t)
  have HE := Lib.hid (fun (W : World) (v : Value) (ho : W.ownsRow w.heap.size 61 2 v t.length (cellsT t)) => own_pb ho h0)
  have hm1 : 0 + t.length ≤ maxLen := by simp only [maxLen]; omega
  have hm2 : (0 + t.length) * 16 ≤ 140737488355328 := by omega
  clear hb ht hf0 h0 h16 h3 hp0
  generalize cellsT t = XS at *
  generalize t.length = n at *
  go_enter Try.func59, Try.ntmps59
  go_wp2_with (at_builtin; go_must (refine wpList_append_own _ rfl (.tmp 5) (.tmp 6) 62 rfl w.heap.size 61 i0 (.agg #[.int .i64 0, .int .i64 0]) 2 16 Try.underlying62 hi0 hz0 hz1 hz2 rfl (Nat.succ_pos 1) _ 0 [] rfl Hm0.out ⟨b, off, none⟩ n c XS rfl Hl.out Hc.out Ho.out hm1 hm2 (by simp) ?_; intro v1 w1 hown1 hg1 hnn; simp only [List.nil_append, Nat.zero_add] at hown1; have hf1 := Hf0.out.own Hm0.out hg1; obtain ⟨g, cap, rfl, k1, k2, k3, k4⟩ := HE.out _ _ hown1; have K4 := Lib.hid k4; have HF1 := Lib.hid hf1; clear k4 hf1 hown1 hg1 hnn))
  go_ret
  exact ⟨g, cap, rfl, K4.out, k2, k3, HF1.out, k1⟩
theorem clip_any (A : Addr) (n cap : Nat) (h : n ≤ cap) (w : World) : Calls Try.prog 88 #[.slice (some A) n cap] w fun e w' => e = .returned (.slice (some A) n n) ∧ w = w' := by
  have hs := run_slice_hm (P := Try.prog) w 62 (some A) n cap (by kernel_rfl) .i64 .i64 (n : Int) (n : Int) (by omega) (Int.le_refl _) (by omega)
  go_enter Try.func88, Try.ntmps88
  go_wp2
  go_ret
  exact ⟨rfl, rfl⟩
/-- What Table tells. -/
def TableP (w : World) (x : Sp) (i : Int) (e : Ending) (w' : World) : Prop := (hasP x i = false ∧ e = .returned (.slice none 0 0) ∧ Fr [] w w') ∨ (hasP x i = true ∧ ∃ g, e = .returned (.slice (some ⟨g, 0, none⟩) (tbOf x i).length (tbOf x i).length) ∧ PB w' g (tbOf x i) ∧ Fr [] w w' ∧ w.heap.size ≤ g)
theorem Table_any (s p F g : Nat) (x : Sp) (i : Int) (w : World) (h : SpAt w s p F g x) (hn1 : ∀ (i : Nat) (t : List Pg), x.tb[i]? = some t → 1 ≤ t.length) : Calls Try.prog 51 #[ptr s, .int .i64 i] w (TableP w x i) := by
  have HI := Lib.hid (is_any s p F g x i w h)
  obtain ⟨cap, c0, c1⟩ := h.cells
  cases hp : hasP x i with
  | false =>
    rw [hp] at HI
    have HP := Lib.hid hp
    clear h hp
    go_enter Try.func51, Try.ntmps51
    go_wp2_with (go_at_call 58; refine HI.out.mono ?_; rintro e w1 ⟨rfl, rfl⟩)
    go_ret
    exact .inl ⟨HP.out, rfl, Fr.refl _ _⟩
  | true =>
    rw [hp] at HI
    have HP := Lib.hid hp
    obtain ⟨k, tb, rfl, hk⟩ := hasP_some hp
    have hkn : k < x.tb.length := (List.getElem?_eq_some_iff.1 hk).1
    obtain ⟨-, hto⟩ := tbOf_some hk
    have Hto := Lib.hid hto
    obtain ⟨A, c, b, c2, -, -, hTb, hbl, hTT⟩ := h.table hk
    have HC := Lib.hid (cloneP_any tb A c w hTT (hn1 k tb hk) (h.n3 k tb hk))
    have hk' : (k : Int) < (x.tb.length : Int) := by omega
    have hk0 : (0 : Int) ≤ (k : Int) := by omega
    clear h hp hto hTb hTT hk hkn
    generalize x.tb.length = N at *
    go_enter Try.func51, Try.ntmps51
    go_wp2_with (first
      | (go_at_call 58; refine HI.out.mono ?_; rintro e w1 ⟨rfl, rfl⟩)
      | (go_at_call 59; refine HC.out.mono ?_; rintro e w2 ⟨g', cap', rfl, h1, h2, h3, h4, h5⟩; have HB := Lib.hid h1; have HF := Lib.hid h4; clear h1 h4)
      | (go_at_call 88; refine (clip_any ⟨g', 0, none⟩ tb.length cap' h2 _).mono ?_; rintro e w3 ⟨rfl, rfl⟩))
    go_ret
    refine .inr ⟨HP.out, g', ?_, ?_, HF.out, h5⟩
    · rw [Hto.out]; rfl
    · rw [Hto.out]; exact HB.out
def inE0 (x : Sp) (i n : Int) : Int := if hasP x i = false then 120 else if n < 0 ∨ 255 < n then 122 else 0
def inE (x : Sp) (i a n : Int) : Int := if inE0 x i n ≠ 0 then inE0 x i n else if (rdR x.st (tbOf x i) a n 1).2 ≠ 0 then 121 else 0
def inV (x : Sp) (i a n : Int) : ByteArray := if inE x i a n = 0 then ⟨(rdR x.st (tbOf x i) a n 1).1.toArray⟩ else ⟨#[]⟩
theorem in_bad {x : Sp} {i a n v : Int} (h : inE0 x i n = v) (hv : v ≠ 0) : inE x i a n = v ∧ inV x i a n = ⟨#[]⟩ := by
  have e : inE x i a n = v := by unfold inE; rw [h, if_pos hv]
  exact ⟨e, by unfold inV; rw [e, if_neg hv]⟩
theorem In_any (s p F g : Nat) (x : Sp) (i a n : Int) (w : World) (h : SpAt w s p F g x) (ha : a ≤ 9223372036854775807) : Calls Try.prog 20 #[ptr s, .int .i64 i, .int .i64 a, .int .i64 n] w fun e w' => e = .returned (.tuple #[.string (inV x i a n), .int .i64 (inE x i a n)]) ∧ Fr [] w w' := by
  have HI := Lib.hid (is_any s p F g x i w h)
  obtain ⟨cap, c0, c1⟩ := h.cells
  cases hp : hasP x i with
  | false =>
    obtain ⟨E1, E2⟩ := in_bad (a := a) (show inE0 x i n = 120 by unfold inE0; rw [if_pos hp]) (by decide)
    rw [E1, E2]
    rw [hp] at HI
    clear h E1 E2 hp
    go_enter Try.func20, Try.ntmps20
    go_wp2_with (go_at_call 58; refine HI.out.mono ?_; rintro e w1 ⟨rfl, rfl⟩)
    go_ret2
    exact ⟨rfl, Fr.refl _ _⟩
  | true =>
    rw [hp] at HI
    have HN := Lib.hid (fun W => in_any n 0 255 W)
    by_cases hs : n < 0 ∨ 255 < n
    · obtain ⟨E1, E2⟩ := in_bad (a := a) (show inE0 x i n = 122 by unfold inE0; rw [if_neg (by rw [hp]; simp), if_pos hs]) (by decide)
      rw [E1, E2]
      have E3 : (decide ((0 : Int) ≤ n) && decide (n ≤ 255)) = false := by
        rw [Bool.and_eq_false_iff, decide_eq_false_iff_not, decide_eq_false_iff_not]
        omega
      rw [E3] at HN
      clear h E1 E2 hp hs E3
      go_enter Try.func20, Try.ntmps20
      go_wp2_with (first
        | (go_at_call 58; refine HI.out.mono ?_; rintro e w1 ⟨rfl, rfl⟩)
        | (go_at_call 55; refine (HN.out _).mono ?_; rintro e w1 ⟨rfl, rfl⟩))
      go_ret2
      exact ⟨rfl, Fr.refl _ _⟩
    · have E0 : inE0 x i n = 0 := by unfold inE0; rw [if_neg (by rw [hp]; simp), if_neg hs]
      have E3 : (decide ((0 : Int) ≤ n) && decide (n ≤ 255)) = true := by
        rw [Bool.and_eq_true, decide_eq_true_eq, decide_eq_true_eq]
        omega
      rw [E3] at HN
      obtain ⟨k, tb, rfl, hk⟩ := hasP_some hp
      have hkn : k < x.tb.length := (List.getElem?_eq_some_iff.1 hk).1
      obtain ⟨-, hto⟩ := tbOf_some hk
      obtain ⟨A, c, b, c2, -, -, hTb, hbl, hTT⟩ := h.table hk
      have HW := Lib.hid (Read_any b p F tb.length c x.st A tb a n 1 w.drew (hTb.fr (Fr.refl [] w).drew (by simp)) (h.to (Fr.refl [] w).drew).mem ha hbl)
      have E1 : inE x (k : Int) a n = if (rdR x.st tb a n 1).2 ≠ 0 then 121 else 0 := by unfold inE; rw [E0, hto]; rfl
      have E2 : inV x (k : Int) a n = if (rdR x.st tb a n 1).2 ≠ 0 then ⟨#[]⟩ else ⟨(rdR x.st tb a n 1).1.toArray⟩ := by
        unfold inV
        rw [E1, hto]
        by_cases hh : (rdR x.st tb a n 1).2 ≠ 0
        · rw [if_pos hh, if_pos hh, if_neg (by decide)]
        · rw [if_neg hh, if_neg hh, if_pos rfl]
      rw [E1, E2]
      have HK := Lib.hid (fun W (hf : Fr [] w.drew W) => (show W.cell? ⟨s, 0, none⟩ = some (ptr p) ∧ W.cell? ⟨s, 1, none⟩ = some (.slice (some ⟨g, 0, none⟩) x.tb.length cap) ∧ W.cell? ⟨g, k, none⟩ = some (.slice A tb.length c) from ⟨((Fr.refl [] w).drew.trans hf).cell_some c0 (by simp), ((Fr.refl [] w).drew.trans hf).cell_some c1 (by simp), ((Fr.refl [] w).drew.trans hf).cell_some c2 (by simp)⟩))
      have hk' : (k : Int) < (x.tb.length : Int) := by omega
      have hk0 : (0 : Int) ≤ (k : Int) := by omega
      unfold ReadP at HW
      clear h E0 E1 E2 E3 hp hs hto hTb hTT hk hkn
      generalize x.tb.length = N at *
      generalize tb.length = m at *
      generalize (rdR x.st tb a n 1).2 = E at *
      generalize (⟨(rdR x.st tb a n 1).1.toArray⟩ : ByteArray) = S at *
      by_cases hE : E = 0
      · rw [if_neg (by omega), if_neg (by omega)]
        subst hE
        go_enter Try.func20, Try.ntmps20
        go_wp2_with (first
          | (go_at_call 58; refine HI.out.mono ?_; rintro e w1 ⟨rfl, rfl⟩)
          | (go_at_call 55; refine (HN.out _).mono ?_; rintro e w1 ⟨rfl, rfl⟩))
        go_region_held3 (fun W => W.cell? ⟨s, 0, none⟩ = some (ptr p) ∧ W.cell? ⟨s, 1, none⟩ = some (.slice (some ⟨g, 0, none⟩) N cap) ∧ W.cell? ⟨g, k, none⟩ = some (.slice A m c)) (first | exact kk | exact ⟨c0, c1, c2⟩) (first
          | (go_at_call 62; refine HW.out.mono ?_; rintro e w2 ⟨rfl, hf2⟩; have kk := HK.out _ hf2))
        go_wp2_with fail
        go_ret2
        exact ⟨rfl, (Fr.refl [] w).drew.trans hf2⟩
      · rw [if_pos hE, if_pos hE]
        go_enter Try.func20, Try.ntmps20
        go_wp2_with (first
          | (go_at_call 58; refine HI.out.mono ?_; rintro e w1 ⟨rfl, rfl⟩)
          | (go_at_call 55; refine (HN.out _).mono ?_; rintro e w1 ⟨rfl, rfl⟩))
        go_region_held3 (fun W => W.cell? ⟨s, 0, none⟩ = some (ptr p) ∧ W.cell? ⟨s, 1, none⟩ = some (.slice (some ⟨g, 0, none⟩) N cap) ∧ W.cell? ⟨g, k, none⟩ = some (.slice A m c)) (first | exact kk | exact ⟨c0, c1, c2⟩) (first
          | (go_at_call 62; refine HW.out.mono ?_; rintro e w2 ⟨rfl, hf2⟩; have kk := HK.out _ hf2))
        go_wp2_with fail
        go_ret2
        exact ⟨rfl, (Fr.refl [] w).drew.trans hf2⟩
end Go.Proofs.Ytonongaakieciaa

/- The reference's memories; its Check; there. -/
import Derived.Test.YtonongaakieciaaW1
namespace Go.Proofs.Ytonongaakieciaa
open Go.RowKit
set_option linter.unusedVariables false
set_option linter.unusedSimpArgs false

/-- The head of a memory of the reference: the slice of its frames. -/
structure RHd (w : World) (q G n : Nat) : Prop where
  hd : ∃ cap, Blk w q 126 #[.slice (some ⟨G, 0, none⟩) n cap] ∧ n ≤ cap ∧ cap ≤ maxLen
  n1 : 1 ≤ n
  n2 : n ≤ 160
theorem RHd.fr {S : List Nat} {w w' : World} {p F n : Nat} (h : RHd w p F n) (hf : Fr S w w') (hp : p ∉ S) : RHd w' p F n := by
  obtain ⟨⟨cap, hb, h1⟩, h2, h3⟩ := h
  exact ⟨⟨cap, hb.fr hf hp, h1⟩, h2, h3⟩
theorem RHd.lt {w : World} {p F n : Nat} (h : RHd w p F n) : p < w.heap.size := by
  obtain ⟨⟨cap, hb, h1⟩, h2, h3⟩ := h
  exact hb.lt
theorem RHd.cell {w : World} {p F n : Nat} (h : RHd w p F n) : ∃ cap, w.cell? ⟨p, 0, none⟩ = some (.slice (some ⟨F, 0, none⟩) n cap) ∧ n ≤ cap ∧ cap ≤ maxLen := by
  obtain ⟨⟨cap, hb, h1⟩, h2, h3⟩ := h
  exact ⟨cap, by rw [hb.cell]; rfl, h1⟩
theorem chT_bad {n : Nat} {t : List Pg} {j : Nat} {p : Pg} (hp : t[j]? = some p) (h : okP n p = false) : (84 : Int) = chT n t := by
  unfold chT okT
  rw [if_neg]
  have : t.all (okP n) = false := by
    rw [List.all_eq_false]
    exact ⟨p, List.mem_of_getElem? hp, by simp [h]⟩
  simp [this]
theorem all_step {n : Nat} {t : List Pg} {j : Nat} {p : Pg} (hp : t[j]? = some p) (ha : (t.take j).all (okP n) = true) (h : okP n p = true) : (t.take (j + 1)).all (okP n) = true := by
  rw [List.take_add_one, hp]
  simp only [List.all_append, ha, Option.toList_some, List.all_cons, h, List.all_nil, Bool.and_true]
set_option maxRecDepth 100000 in
set_option maxHeartbeats 4000000 in
theorem rCheck_any (b q G n m cap : Nat) (A : Option Addr) (t : List Pg) (w : World) (ht : Tb w b (.slice A m cap) t) (h : RHd w q G n) :
    Calls Try.prog 92 #[ptr q, .slice A m cap] w fun e w' => e = .returned (.int .i64 (chT n t)) ∧ Fr [] w w' := by
  have hl := Lib.hid ht.n_eq
  have hml : m ≤ 9223372036854775807 := by have := ht.len; have := hl.out; simp only [maxLen] at *; omega
  have hn := h.n1
  have H := Lib.hid ht
  have HH := Lib.hid h
  clear ht h
  by_cases hb : 16 < m
  · have e := Lib.hid (show chT n t = 84 from by
      unfold chT okT
      rw [if_neg]
      simp
      intro h
      have := hl.out
      omega)
    go_enter Try.func92, Try.ntmps92
    go_wp2_with fail
    go_ret
    exact ⟨ret_int (by rw [e.out]), (Fr.refl _ _)⟩
  · have hb' : m ≤ 16 := by omega
    go_enter Try.func92, Try.ntmps92
    go_wp2
    go_loopg [5] m (fun g i wr => ∃ j : Nat, j + g = m ∧ i = .int .i64 j ∧ (t.take j).all (okP n) = true ∧ Fr [] w wr)
    case atStart => exact ⟨0, by omega, rfl, by simp, Fr.refl _ _⟩
    case round =>
      obtain ⟨j, hj, rfl, hall, hfr⟩ := hrel
      have Hj := Lib.hid hj
      have Hall := Lib.hid hall
      clear hj hall
      by_cases hlt : j < m
      · obtain ⟨⟨f, r⟩, hx⟩ : ∃ x, t[j]? = some x := ⟨_, List.getElem?_eq_getElem (by have := hl.out; omega)⟩
        obtain ⟨off, hA, hbl, c0, c1⟩ := (H.out.fr hfr (by simp)).at_ hx
        subst hA
        have Hx := Lib.hid hx
        simp only at c0 c1
        obtain ⟨cp, hc, -, -⟩ := (HH.out.fr hfr (by simp)).cell
        have hpl := (HH.out.fr hfr (by simp)).lt
        clear hx
        have Hf := Lib.hid hfr
        clear hfr
        rcases bad_cases n f r with h1 | ⟨h0, h1⟩ | ⟨h0, h1, h2⟩ | ⟨h0, h1, h2⟩ | ⟨rfl, h1, h2, h3⟩ | ⟨rfl, rfl⟩ | ⟨h0, h1, h2, h3⟩
        · have e := Lib.hid (okP_not n ⟨f, r⟩ (by simp only; omega))
          have d0 : decide (f < -1) = true := by rw [decide_eq_true_iff]; omega
          go_wp2_with fail
          go_quiet (fail)
          go_wp2_with fail
          go_ret
          exact ⟨ret_int (chT_bad Hx.out e.out), (Hf.out.alloc _).drewN _⟩
        · have e := Lib.hid (okP_not n ⟨f, r⟩ (by simp only; omega))
          have d0 : decide (f < -1) = false := by rw [decide_eq_false_iff_not]; omega
          have d1 : decide ((n : Int) ≤ f) = true := by rw [decide_eq_true_iff]; omega
          go_wp2_with fail
          go_quiet (fail)
          go_wp2_with fail
          go_ret
          exact ⟨ret_int (chT_bad Hx.out e.out), (Hf.out.alloc _).drewN _⟩
        · have e := Lib.hid (okP_not n ⟨f, r⟩ (by simp only; omega))
          have d0 : decide (f < -1) = false := by rw [decide_eq_false_iff_not]; omega
          have d1 : decide ((n : Int) ≤ f) = false := by rw [decide_eq_false_iff_not]; omega
          have d2 : decide (r < 0) = true := by rw [decide_eq_true_iff]; omega
          go_wp2_with fail
          go_quiet (fail)
          go_wp2_with fail
          go_ret
          exact ⟨ret_int (chT_bad Hx.out e.out), (Hf.out.alloc _).drewN _⟩
        · have e := Lib.hid (okP_not n ⟨f, r⟩ (by simp only; omega))
          have d0 : decide (f < -1) = false := by rw [decide_eq_false_iff_not]; omega
          have d1 : decide ((n : Int) ≤ f) = false := by rw [decide_eq_false_iff_not]; omega
          have d2 : decide (r < 0) = false := by rw [decide_eq_false_iff_not]; omega
          have d3 : decide (7 < r) = true := by rw [decide_eq_true_iff]; omega
          go_wp2_with fail
          go_quiet (fail)
          go_wp2_with fail
          go_ret
          exact ⟨ret_int (chT_bad Hx.out e.out), (Hf.out.alloc _).drewN _⟩
        · have e := Lib.hid (okP_not n ⟨-1, r⟩ (by simp only; omega))
          have d0 : decide ((n : Int) ≤ -1) = false := by rw [decide_eq_false_iff_not]; omega
          have d1 : decide (r < 0) = false := by rw [decide_eq_false_iff_not]; omega
          have d2 : decide (7 < r) = false := by rw [decide_eq_false_iff_not]; omega
          have d3 : (r != 0) = true := by rw [bne_iff_ne]; omega
          go_wp2_with fail
          go_quiet (fail)
          go_wp2_with fail
          go_ret
          exact ⟨ret_int (chT_bad Hx.out e.out), (Hf.out.alloc _).drewN _⟩
        · have e := Lib.hid ((okP_iff n ⟨-1, 0⟩).2 ⟨by simp, by simp only; omega, by simp, by simp, fun _ => rfl⟩)
          have d0 : decide ((n : Int) ≤ -1) = false := by rw [decide_eq_false_iff_not]; omega
          go_wp2_with fail
          go_quiet (fail)
          go_wp2_with fail
          go_roundg (m - (j + 1))
          case measure => have := Hj.out; omega
          case rel => exact ⟨j + 1, by have := Hj.out; omega, by go_num, all_step Hx.out Hall.out e.out, (Hf.out.alloc _).drewN _⟩
        · have e := Lib.hid ((okP_iff n ⟨f, r⟩).2 (by simp only; omega))
          have d0 : decide (f < -1) = false := by rw [decide_eq_false_iff_not]; omega
          have d1 : decide ((n : Int) ≤ f) = false := by rw [decide_eq_false_iff_not]; omega
          have d2 : decide (r < 0) = false := by rw [decide_eq_false_iff_not]; omega
          have d3 : decide (7 < r) = false := by rw [decide_eq_false_iff_not]; omega
          have d4 : (f == -1) = false := by rw [beq_eq_false_iff_ne]; omega
          go_wp2_with fail
          go_quiet (fail)
          go_wp2_with fail
          go_roundg (m - (j + 1))
          case measure => have := Hj.out; omega
          case rel => exact ⟨j + 1, by have := Hj.out; omega, by go_num, all_step Hx.out Hall.out e.out, (Hf.out.alloc _).drewN _⟩
      · have hjm : j = m := by have := Hj.out; omega
        have e := Lib.hid (show chT n t = 0 from by
          have h1 := Hall.out
          rw [List.take_of_length_le (by have := hl.out; omega)] at h1
          unfold chT okT
          rw [if_pos]
          simp only [h1, Bool.and_true, decide_eq_true_eq]
          have := hl.out
          omega)
        clear hjm
        go_wp2_with fail
        go_ret
        exact ⟨ret_int (by rw [e.out]), hfr⟩
end Go.Proofs.Ytonongaakieciaa

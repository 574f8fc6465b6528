/- A key; who is there; what is written, taken; the focus. -/
import Derived.Test.YtkjahokffpihmaaDoorC10
namespace Go.Proofs.YtkjahokffpihmaaDoor
open Go.RowKit
set_option linter.unusedVariables false
set_option linter.unusedSimpArgs false
set_option maxRecDepth 100000
/-- A key. -/
def key (x : Con) (b : UInt8) : Con := if b.toNat = 1 then trust x else if x.fo ≠ -1 then toLevel x b else if x.ch then toChoice x b else toPass x b
theorem key_ok {x : Con} (h : x.Ok) (b : UInt8) : (key x b).Ok := by
  unfold key
  split
  · exact trust_ok h
  · split
    · exact toLevel_ok h b
    · split
      · exact toChoice_ok h b
      · exact toPass_ok h b
def ConQ (w : World) (c k : Nat) (x : Con) (e : Ending) (w' : World) : Prop := e = .returned (.tuple #[]) ∧ ConAt w' c k x ∧ Fr [c, k] w w'
theorem ConP.q {w : World} {c k : Nat} {x : Con} {e : Ending} {w' : World} (h : ConP w c k x e w') : ConQ w c k x e w' := ⟨h.1, h.2.1, h.2.2.mono (fun j hj _ => by simp at hj; simp [hj])⟩
theorem toPass_any (w : World) (c k : Nat) (x : Con) (h : ConAt w c k x) (b : UInt8) : Calls Tryd.prog 51 #[ptr c, .int .u8 (b.toNat : Int)] w (ConP w c k (toPass x b)) := by
  by_cases h13 : b.toNat = 13
  · exact toPass_enter w c k x h b h13
  · exact toPass_key w c k x h b h13
set_option maxHeartbeats 2000000 in
theorem key_any (w : World) (c k : Nat) (x : Con) (h : ConAt w c k x) (b : UInt8) : Calls Tryd.prog 13 #[ptr c, .int .u8 (b.toNat : Int)] w (ConQ w c k (key x b)) := by
  by_cases h1 : b.toNat = 1
  · have e : key x b = trust x := by unfold key; rw [if_pos h1]
    rw [e]
    have HT := Lib.hid ((trusted_any w c k x h).mono (R' := ConQ w c k (trust x)) (fun _ _ h => h.q))
    have e1 : (((b.toNat : Nat) : Int) == 1) = true := by rw [h1]; rfl
    clear h h1 e
    go_enter Tryd.func13, Tryd.ntmps13
    go_wp2_with (go_at_call 34; refine HT.out.mono ?_; rintro e w1 hP; obtain ⟨rfl, hQ⟩ := hP; have HQ := Lib.hid hQ; clear hQ)
    refine bodyPost_ret (results_none rfl _ _ _) rfl ?_
    exact ⟨rfl, HQ.out⟩
  · have e1 : (((b.toNat : Nat) : Int) == 1) = false := beq_eq_false_iff_ne.2 (by omega)
    have HH := Lib.hid (handler_any w c k x h)
    by_cases hf : x.fo ≠ -1
    · have e : key x b = toLevel x b := by unfold key; rw [if_neg h1, if_pos hf]
      rw [e]
      rw [if_pos hf] at HH
      have HT := Lib.hid ((toLevel_any w c k x h hf b).mono (R' := ConQ w c k (toLevel x b)) (fun _ _ h => ⟨h.1, h.2.1, h.2.2.mono (fun j hj _ => by simp at hj; simp [hj])⟩))
      clear h h1 e hf
      go_enter Tryd.func13, Tryd.ntmps13
      go_wp2_with (go_at_call 35; refine HH.out.mono ?_; rintro e w1 ⟨rfl, rfl⟩)
      refine HT.out.mono ?_
      rintro e w1 hP
      obtain ⟨rfl, hQ⟩ := hP
      have HQ := Lib.hid hQ
      clear hQ
      go_wp2_with fail
      go_end0
      exact ⟨rfl, HQ.out⟩
    · rw [if_neg hf] at HH
      cases hc : x.ch with
      | true =>
        have e : key x b = toChoice x b := by unfold key; rw [if_neg h1, if_neg hf, if_pos hc]
        rw [e]
        rw [if_pos hc] at HH
        have HT := Lib.hid ((toChoice_any w c k x h b).mono (R' := ConQ w c k (toChoice x b)) (fun _ _ h => h.q))
        clear h h1 e hf hc
        go_enter Tryd.func13, Tryd.ntmps13
        go_wp2_with (go_at_call 35; refine HH.out.mono ?_; rintro e w1 ⟨rfl, rfl⟩)
        refine HT.out.mono ?_
        rintro e w1 hP
        obtain ⟨rfl, hQ⟩ := hP
        have HQ := Lib.hid hQ
        clear hQ
        go_wp2_with fail
        go_end0
        exact ⟨rfl, HQ.out⟩
      | false =>
        have e : key x b = toPass x b := by unfold key; rw [if_neg h1, if_neg hf, if_neg (by simp [hc])]
        rw [e]
        rw [if_neg (by simp [hc])] at HH
        have HT := Lib.hid ((toPass_any w c k x h b).mono (R' := ConQ w c k (toPass x b)) (fun _ _ h => h.q))
        clear h h1 e hf hc
        go_enter Tryd.func13, Tryd.ntmps13
        go_wp2_with (go_at_call 35; refine HH.out.mono ?_; rintro e w1 ⟨rfl, rfl⟩)
        refine HT.out.mono ?_
        rintro e w1 hP
        obtain ⟨rfl, hQ⟩ := hP
        have HQ := Lib.hid hQ
        clear hQ
        go_wp2_with fail
        go_end0
        exact ⟨rfl, HQ.out⟩
/-- Is there such a level? -/
def isL (x : Con) (l : Int) : Bool := decide (0 ≤ l) && decide (l < x.lv)
theorem is_any (w : World) (c k : Nat) (x : Con) (h : ConAt w c k x) (l : Int) : Calls Tryd.prog 33 #[ptr c, .int .i64 l] w fun e w' => e = .returned (.bool (isL x l)) ∧ w = w' := by
  obtain ⟨⟨cap, hb, -⟩, -, -⟩ := h
  have c0 := (conC hb).c0
  clear hb
  unfold isL
  generalize x.lv = N at *
  by_cases h1 : 0 ≤ l
  · rw [decide_eq_true h1, Bool.true_and]
    go_enter Tryd.func33, Tryd.ntmps33
    go_wp2
    go_ret
    exact ⟨rfl, rfl⟩
  · rw [decide_eq_false h1, Bool.false_and]
    go_enter Tryd.func33, Tryd.ntmps33
    go_wp2
    go_ret
    exact ⟨rfl, rfl⟩
theorem focus_any (w : World) (c k : Nat) (x : Con) (h : ConAt w c k x) : Calls Tryd.prog 17 #[ptr c] w fun e w' => e = .returned (.int .i64 x.fo) ∧ w = w' := by
  obtain ⟨⟨cap, hb, -⟩, -, -⟩ := h
  have c2 := (conC hb).c2
  clear hb
  go_enter Tryd.func17, Tryd.ntmps17
  go_wp2
  go_ret
  exact ⟨rfl, rfl⟩
/-- Written by a level. -/
def write (x : Con) (l : Int) (t : List UInt8) : Con := if isL x l then if x.fo = l then { x with sc := ssays x.sc t } else x else x
def wrE (x : Con) (l : Int) : Int := if isL x l then 0 else 221
theorem write_ok {x : Con} (h : x.Ok) (l : Int) (t : List UInt8) : (write x l t).Ok := by
  unfold write
  split
  · split
    · exact ⟨h.l1, h.l8, h.g1, h.g, h.f0, h.f1, h.t, h.n, h.k, ssays_ok h.s _⟩
    · exact h
  · exact h
def ConE (w : World) (c k : Nat) (x : Con) (v : Value) (e : Ending) (w' : World) : Prop := e = .returned v ∧ ConAt w' c k x ∧ Fr [c, k] w w'
set_option maxHeartbeats 2000000 in
theorem write_any (w : World) (c k : Nat) (x : Con) (h : ConAt w c k x) (l : Int) (t : ByteArray) (ht : t.size ≤ maxLen) : Calls Tryd.prog 19 #[ptr c, .int .i64 l, .string t] w (ConE w c k (write x l t.data.toList) (.int .i64 (wrE x l))) := by
  have HI := Lib.hid (is_any w c k x h l)
  have HX := Lib.hid h
  have hne := h.ne
  unfold write wrE
  cases hi : isL x l with
  | false =>
    rw [hi] at HI
    rw [if_neg (by simp), if_neg (by simp)]
    clear h hi
    go_enter Tryd.func19, Tryd.ntmps19
    go_wp2_with (go_at_call 33; refine HI.out.mono ?_; rintro e w1 ⟨rfl, rfl⟩)
    go_ret
    exact ⟨rfl, HX.out, Fr.refl _ _⟩
  | true =>
    rw [hi] at HI
    rw [if_pos rfl, if_pos rfl]
    have hw := write_ok h.ok l t.data.toList
    unfold write at hw
    rw [hi, if_pos rfl] at hw
    obtain ⟨⟨cap, hb, h1, h2⟩, hk, ok⟩ := h
    have c2 := (conC hb).c2
    by_cases hf : x.fo = l
    · rw [if_pos hf] at hw ⊢
      rw [hf] at c2
      have HS := Lib.hid ((says_any w c _ (hd_Hd _ _ _ _) x.sc ok.s hb t ht).mono (R' := ConQ w c k { x with sc := ssays x.sc t.data.toList }) (fun e w' ⟨he, hb3, hf3⟩ => ConP.q ⟨he, ⟨⟨cap, hb3, h1, h2⟩, hk.fr hf3 (by simp; omega), hw⟩, hf3⟩))
      clear hb hk ok h1 h2 hi hf hw
      go_enter Tryd.func19, Tryd.ntmps19
      go_wp2_with (first
        | (go_at_call 33; refine HI.out.mono ?_; rintro e w1 ⟨rfl, rfl⟩)
        | (go_at_call 38; refine HS.out.mono ?_; rintro e w1 hP; obtain ⟨rfl, hQ⟩ := hP; have HQ := Lib.hid hQ; clear hQ))
      go_ret
      exact ⟨rfl, HQ.out⟩
    · rw [if_neg hf] at hw ⊢
      have e1 : (x.fo == l) = false := beq_eq_false_iff_ne.2 hf
      clear hb hk ok h1 h2 hi hf hw
      go_enter Tryd.func19, Tryd.ntmps19
      go_wp2_with (go_at_call 33; refine HI.out.mono ?_; rintro e w1 ⟨rfl, rfl⟩)
      go_ret
      exact ⟨rfl, HX.out, Fr.refl _ _⟩
/-- Taken by a level. -/
def takeX (x : Con) (l : Int) : Con := if isL x l then { x with ks := x.ks.set l.toNat empty } else x
def takeS (x : Con) (l : Int) : ByteArray := if isL x l then x.ks.getD l.toNat empty else empty
theorem takeX_ok {x : Con} (h : x.Ok) (l : Int) : (takeX x l).Ok := by
  unfold takeX
  split
  · exact ⟨h.l1, h.l8, h.g1, h.g, h.f0, h.f1, h.t, by simp [h.n], fun s hs => by
      rcases List.mem_or_eq_of_mem_set hs with h1 | h1
      · exact h.k s h1
      · rw [h1]; simp [empty, ByteArray.size], h.s⟩
  · exact h
set_option maxHeartbeats 2000000 in
theorem take_any (w : World) (c k : Nat) (x : Con) (h : ConAt w c k x) (l : Int) : Calls Tryd.prog 12 #[ptr c, .int .i64 l] w (ConE w c k (takeX x l) (.tuple #[.string (takeS x l), .int .i64 (wrE x l)])) := by
  have HI := Lib.hid (is_any w c k x h l)
  have HX := Lib.hid h
  have hne := h.ne
  have hT := takeX_ok h.ok l
  unfold takeS wrE
  unfold takeX at hT ⊢
  cases hi : isL x l with
  | false =>
    rw [hi] at HI
    rw [if_neg (by simp), if_neg (by simp), if_neg (by simp)]
    clear h hi hT
    go_enter Tryd.func12, Tryd.ntmps12
    go_wp2_with (go_at_call 33; refine HI.out.mono ?_; rintro e w1 ⟨rfl, rfl⟩)
    go_ret2
    exact ⟨rfl, HX.out, Fr.refl _ _⟩
  | true =>
    rw [hi] at HI hT
    rw [if_pos rfl, if_pos rfl, if_pos rfl]
    rw [if_pos rfl] at hT
    obtain ⟨⟨cap, hb, h1, h2⟩, hk, ok⟩ := h
    have c5 := (conC hb).c5
    have hi' := hi
    unfold isL at hi'
    simp only [Bool.and_eq_true, decide_eq_true_eq] at hi'
    obtain ⟨f, rfl⟩ := Int.eq_ofNat_of_zero_le hi'.1
    simp only [Int.toNat_natCast] at hT ⊢
    have hfl : f < x.lv := by omega
    obtain ⟨s, hs⟩ : ∃ s, x.ks[f]? = some s := ⟨_, List.getElem?_eq_getElem (by rw [ok.n]; exact hfl)⟩
    obtain ⟨k0, kf⟩ := hk.at_ hs
    rw [List.getD_eq_getElem?_getD, hs, Option.getD_some]
    have i1 : (f : Int) < (x.lv : Int) := hi'.2
    have i0 : (0 : Int) ≤ (f : Int) := by omega
    have HY := Lib.hid (show ConAt (w.setCell ⟨k, f, none⟩ (.string ⟨#[]⟩)) c k { x with ks := x.ks.set f empty } ∧ Fr [c, k] w (w.setCell ⟨k, f, none⟩ (.string ⟨#[]⟩)) from
      ⟨⟨⟨cap, hb.fr ((Fr.refl [k] w).setCell (by simp) _) (by simp; omega), h1, h2⟩, hk.set_ f empty, hT⟩, (Fr.refl [c, k] w).setCell (by simp) _⟩)
    clear hb hk ok h1 h2 hi hi' hT hs
    go_enter Tryd.func12, Tryd.ntmps12
    go_wp2_with (go_at_call 33; refine HI.out.mono ?_; rintro e w1 ⟨rfl, rfl⟩)
    go_ret2
    exact ⟨rfl, HY.out.1, HY.out.2⟩
end Go.Proofs.YtkjahokffpihmaaDoor

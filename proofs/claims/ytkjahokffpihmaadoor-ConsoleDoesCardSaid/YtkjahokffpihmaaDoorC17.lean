/- A console that was made since a world; keys; rows of strings compared. -/
import Derived.Test.YtkjahokffpihmaaDoorC16
namespace Go.Proofs.YtkjahokffpihmaaDoor
open Go.RowKit
set_option linter.unusedVariables false
set_option linter.unusedSimpArgs false
set_option maxRecDepth 100000
/-- A console that was made since w0. -/
structure Cn (w0 W : World) (c k : Nat) (x : Con) : Prop where
  a : ConAt W c k x
  f : Fr [] w0 W
  c0 : w0.heap.size ≤ c
  k0 : w0.heap.size ≤ k
section
variable {w0 W W' : World} {c k : Nat} {x : Con}
theorem Cn.ok (h : Cn w0 W c k x) : x.Ok := h.a.ok
theorem Cn.to (h : Cn w0 W c k x) (hf : Fr [] W W') : Cn w0 W' c k x := ⟨h.a.to hf, h.f.trans hf, h.c0, h.k0⟩
theorem Cn.lt (h : Cn w0 W c k x) : c < W.heap.size ∧ k < W.heap.size := h.a.lt
/-- A call on it: what it leaves. -/
def CnE (w0 W : World) (c k : Nat) (x : Con) (v : Value) (e : Ending) (w' : World) : Prop := e = .returned v ∧ Cn w0 w' c k x ∧ Fr [c, k] W w'
theorem Cn.turn (h : Cn w0 W c k x) {x' : Con} (ha : ConAt W' c k x') (hf : Fr [c, k] W W') : Cn w0 W' c k x' :=
  ⟨ha, h.f.step hf (fun j hj => by simp at hj; right; rcases hj with rfl | rfl; exact h.c0; exact h.k0), h.c0, h.k0⟩
theorem Cn.key (h : Cn w0 W c k x) (b : UInt8) : Calls Tryd.prog 13 #[ptr c, .int .u8 (b.toNat : Int)] W (CnE w0 W c k (key x b) (.tuple #[])) :=
  (key_any W c k x h.a b).mono fun e w' ⟨he, ha, hf⟩ => ⟨he, h.turn ha hf, hf⟩
theorem Cn.write (h : Cn w0 W c k x) (l : Int) (t : ByteArray) (ht : t.size ≤ maxLen) : Calls Tryd.prog 19 #[ptr c, .int .i64 l, .string t] W (CnE w0 W c k (write x l t.data.toList) (.int .i64 (wrE x l))) :=
  (write_any W c k x h.a l t ht).mono fun e w' ⟨he, ha, hf⟩ => ⟨he, h.turn ha hf, hf⟩
theorem Cn.take (h : Cn w0 W c k x) (l : Int) : Calls Tryd.prog 12 #[ptr c, .int .i64 l] W (CnE w0 W c k (takeX x l) (.tuple #[.string (takeS x l), .int .i64 (wrE x l)])) :=
  (take_any W c k x h.a l).mono fun e w' ⟨he, ha, hf⟩ => ⟨he, h.turn ha hf, hf⟩
theorem Cn.focus (h : Cn w0 W c k x) : Calls Tryd.prog 17 #[ptr c] W fun e w' => e = .returned (.int .i64 x.fo) ∧ W = w' := focus_any W c k x h.a
theorem Cn.banner (h : Cn w0 W c k x) : Calls Tryd.prog 20 #[ptr c] W fun e w' => e = .returned (.string (banner x)) ∧ W = w' := banner_any W c k x h.a
theorem Cn.screen (h : Cn w0 W c k x) : Calls Tryd.prog 15 #[ptr c] W (RowP W (screenL x.sc)) := screen_any W c k x h.a
end
/-- What New makes. -/
def CnN (w0 : World) (lv : Int) (lg : ByteArray) (e : Ending) (w' : World) : Prop :=
  (okNew lv lg = false ∧ e = .returned (.tuple #[.pointer none, .int .i64 220]) ∧ Fr [] w0 w') ∨
    (okNew lv lg = true ∧ ∃ c k, e = .returned (.tuple #[ptr c, .int .i64 0]) ∧ Cn w0 w' c k (newCon lv.toNat lg))
theorem cn_new (w0 W : World) (hf : Fr [] w0 W) (lv : Int) (lg : ByteArray) : Calls Tryd.prog 21 #[.int .i64 lv, .string lg] W (CnN w0 lv lg) :=
  (new_any lv lg W).mono fun e w' ⟨hf', h⟩ => by
    have hs := hf.size
    rcases h with ⟨h1, he⟩ | ⟨h1, c, k, he, ha, hc, hk⟩
    · exact .inl ⟨h1, he, hf.trans hf'⟩
    · exact .inr ⟨h1, c, k, he, ⟨ha, hf.trans hf', by omega, by omega⟩⟩
/-- Bytes as keys. -/
def keysX (x : Con) (l : List UInt8) : Con := l.foldl key x
theorem keysX_snoc (x : Con) (t : ByteArray) {k : Nat} (hk : k < t.size) : keysX x (t.data.toList.take (k + 1)) = key (keysX x (t.data.toList.take k)) t[k] := by
  rw [List.take_succ_eq_append_getElem (by simpa using hk)]
  unfold keysX
  rw [List.foldl_append]
  rfl
set_option maxHeartbeats 1000000 in
theorem cn_keys {w0 W : World} {c q : Nat} {x : Con} (h : Cn w0 W c q x) (t : ByteArray) (ht : t.size ≤ maxLen) : Calls Tryd.prog 23 #[ptr c, .string t] W (CnE w0 W c q (keysX x t.data.toList) (.tuple #[])) := by
  have hts : t.size ≤ 9223372036854775807 := by simpa [maxLen] using ht
  have HB := Lib.hid h
  clear h ht
  go_enter Tryd.func23, Tryd.ntmps23
  go_wp2_with fail
  go_loopg [4] t.size (fun gg i wr => ∃ k : Nat, k + gg = t.size ∧ i = .int .i64 k ∧ Cn w0 wr c q (keysX x (t.data.toList.take k)) ∧ Fr [c, q] W wr)
  case atStart => exact ⟨0, by omega, rfl, HB.out, Fr.refl _ _⟩
  case round =>
    obtain ⟨k, hk, rfl, hb, hf⟩ := hrel
    have Hk := Lib.hid hk
    have HF := Lib.hid hf
    clear hf
    by_cases hlt : k < t.size
    · have hlt' : (k : Int) < (t.size : Int) := by omega
      have hk0 : (0 : Int) ≤ (k : Int) := by omega
      have HD := Lib.hid (hb.key t[k])
      rw [← keysX_snoc x t hlt] at HD
      obtain ⟨s', hs'⟩ : ∃ v, keysX x (t.data.toList.take (k + 1)) = v := ⟨_, rfl⟩
      rw [hs'] at HD
      have HE := Lib.hid hs'
      clear hs' hb hk
      go_wp2_with (go_at_call 13; refine HD.out.mono ?_; rintro e w2 hP; obtain ⟨rfl, hQ⟩ := hP; have HN := Lib.hid hQ; clear hQ)
      go_roundg (t.size - (k + 1))
      case measure => have := Hk.out; omega
      case rel =>
        rw [← HE.out] at HN
        exact ⟨k + 1, by have := Hk.out; omega, by go_num, HN.out.1, HF.out.trans HN.out.2⟩
    · have hl : ¬ (k : Int) < (t.size : Int) := by omega
      have e : t.data.toList.take k = t.data.toList := List.take_of_length_le (by
        have : t.data.toList.length = t.size := rfl
        omega)
      rw [e] at hb
      have HN := Lib.hid hb
      clear hb hk e
      go_wp2_with fail
      go_end0
      exact ⟨rfl, HN.out, HF.out⟩
/-- Strings in a block from a place on. -/
def StrsAt (w : World) (g o : Nat) (l : List ByteArray) : Prop := ∀ (i : Nat) (s : ByteArray), l[i]? = some s → w.cell? ⟨g, o + i, none⟩ = some (.string s)
theorem KeysAt.strs {w : World} {g : Nat} {l : List ByteArray} (h : KeysAt w g l) : StrsAt w g 0 l := fun i s hi => by rw [Nat.zero_add]; exact (h.at_ hi).1
theorem StrsAt.to {w w' : World} {g o : Nat} {l : List ByteArray} (h : StrsAt w g o l) (hf : Fr [] w w') : StrsAt w' g o l := fun i s hi => hf.cell_some (h i s hi) (by simp)
theorem list_take_eq {a b : List ByteArray} (hl : a.length = b.length) (h : a.take a.length = b.take a.length) : a = b := by
  rw [List.take_length, hl, List.take_length] at h
  exact h
def SameP (a b : List ByteArray) (w : World) (e : Ending) (w' : World) : Prop := e = .returned (.bool (decide (a = b))) ∧ Fr [] w w'
set_option maxHeartbeats 2000000 in
theorem same_any (w : World) (g1 o1 c1 g2 o2 c2 : Nat) (a b : List ByteArray) (ha : StrsAt w g1 o1 a) (hb : StrsAt w g2 o2 b) (hla : a.length ≤ maxLen) (hlb : b.length ≤ maxLen) :
    Calls Tryd.prog 14 #[.slice (some ⟨g1, o1, none⟩) a.length c1, .slice (some ⟨g2, o2, none⟩) b.length c2] w (SameP a b w) := by
  have HA := Lib.hid ha
  have HB := Lib.hid hb
  have na : a.length ≤ 9223372036854775807 := by simpa [maxLen] using hla
  have nb : b.length ≤ 9223372036854775807 := by simpa [maxLen] using hlb
  clear ha hb hla hlb
  unfold SameP
  by_cases hl : a.length = b.length
  · have HL := Lib.hid hl
    rw [← hl]
    clear hl nb
    have e1 : (((a.length : Nat) : Int) != ((a.length : Nat) : Int)) = false := by simp
    have HE : Hid (∀ n, a.length = n → a.take n = b.take n → decide (a = b) = true) := Lib.hid fun n hn h => decide_eq_true (list_take_eq HL.out (by rw [hn]; exact h))
    have HX : Hid (∀ k s t, a[k]? = some s → b[k]? = some t → a.take k = b.take k → (s ≠ t → decide (a = b) = false) ∧ (s = t → a.take (k + 1) = b.take (k + 1))) := Lib.hid fun k s t hs ht h => ⟨fun hne => decide_eq_false (by
      rintro rfl
      rw [hs] at ht
      injection ht with ht
      exact hne ht), fun he => by
        rw [List.take_add_one, List.take_add_one, hs, ht, h, he]⟩
    have HG : Hid (∀ k, k < a.length → ∃ s t, a[k]? = some s ∧ b[k]? = some t) := Lib.hid fun k hk => ⟨_, _, List.getElem?_eq_getElem hk, List.getElem?_eq_getElem (by have := HL.out; omega)⟩
    obtain ⟨n, hn⟩ : ∃ n, a.length = n := ⟨_, rfl⟩
    rw [hn] at na e1 HG ⊢
    have Hn := Lib.hid hn
    clear hn
    obtain ⟨B, hB⟩ : ∃ B, decide (a = b) = B := ⟨_, rfl⟩
    rw [hB] at HE HX ⊢
    clear hB HL
    go_enter Tryd.func14, Tryd.ntmps14
    go_wp2_with fail
    go_loopg [5] n (fun gg i wr => ∃ k : Nat, k + gg = n ∧ i = .int .i64 k ∧ a.take k = b.take k ∧ Fr [] w wr)
    case atStart => exact ⟨0, by omega, rfl, by simp, Fr.refl _ _⟩
    case round =>
      obtain ⟨k, hk, rfl, ht, hf⟩ := hrel
      have Hk := Lib.hid hk
      have HF := Lib.hid hf
      by_cases hlt : k < n
      · have hlt' : (k : Int) < (n : Int) := by omega
        have hk0 : (0 : Int) ≤ (k : Int) := by omega
        obtain ⟨s, t, hs, hst⟩ := HG.out k hlt
        have q1 := (HA.out.to hf) k s hs
        have q2 := (HB.out.to hf) k t hst
        obtain ⟨x1, x2⟩ := HX.out k s t hs hst ht
        have X1 := Lib.hid x1
        have X2 := Lib.hid x2
        clear x1 x2 hs hst ht hf hk
        by_cases hst : s = t
        · subst hst
          have X3 := Lib.hid (X2.out rfl)
          clear X1 X2
          go_wp2_with fail
          go_region_held3 (fun W => W.cell? ⟨g1, o1 + k, none⟩ = some (.string s) ∧ W.cell? ⟨g2, o2 + k, none⟩ = some (.string s)) (first | exact ⟨q1, q2⟩ | go_keep) (fail)
          go_wp2_with fail
          go_roundg (n - (k + 1))
          case measure => have := Hk.out; omega
          case rel => exact ⟨k + 1, by have := Hk.out; omega, by go_num, X3.out, HF.out.drew⟩
        · have q3 := str_ne hst
          have X3 := Lib.hid (X1.out hst)
          clear X1 X2 hst
          go_wp2_with fail
          go_region_held3 (fun W => W.cell? ⟨g1, o1 + k, none⟩ = some (.string s) ∧ W.cell? ⟨g2, o2 + k, none⟩ = some (.string t)) (first | exact ⟨q1, q2⟩ | go_keep) (fail)
          go_wp2_with fail
          go_ret
          exact ⟨by rw [X3.out]; rfl, HF.out.drew⟩
      · obtain rfl : k = n := by omega
        have HE2 := Lib.hid (HE.out k Hn.out ht)
        clear ht hf hk
        go_wp2_with fail
        go_ret
        exact ⟨by rw [HE2.out]; rfl, HF.out⟩
  · have e1 : (((a.length : Nat) : Int) != ((b.length : Nat) : Int)) = true := by rw [bne_iff_ne]; omega
    have e2 : (a.length != b.length) = true := by rw [bne_iff_ne]; exact hl
    have X3 := Lib.hid (show decide (a = b) = false from decide_eq_false (by rintro rfl; exact hl rfl))
    clear hl
    generalize decide (a = b) = B at *
    generalize a.length = n at *
    generalize b.length = m at *
    go_enter Tryd.func14, Tryd.ntmps14
    go_wp2_with fail
    go_ret
    exact ⟨by rw [X3.out]; rfl, Fr.refl _ _⟩
end Go.Proofs.YtkjahokffpihmaaDoor

/- BlockStamps: the walk. -/
import Derived.Test.YthmnloapjdalpaaL16
namespace Go.Proofs.Ythmnloapjdalpaa
open Go.RowKit
set_option linter.unusedVariables false
set_option linter.unusedSimpArgs false
theorem parseR_form2 (s : ByteArray) : ∃ D N E, ParseR s = .tuple #[.string D, .int .i64 N, .int .i64 E] := ⟨_, _, _, rfl⟩
def sB : Bv := newB 0 1 0
def sD : Dk := newD (zeros 128)
theorem sB_touch (k : Kp) : sB.touch k = sB := by
  show ({ sB with cache := touchL [] k 0 } : Bv) = sB
  have : touchL [] k 0 = [] := by
    unfold touchL
    rw [Nat.sub_zero, List.drop_length]
  rw [this]
  rfl
theorem sB_miss_touch (k : Kp) : sB.miss.touch k = sB.miss := by
  show ({ sB.miss with cache := touchL [] k 0 } : Bv) = sB.miss
  have : touchL [] k 0 = [] := by
    unfold touchL
    rw [Nat.sub_zero, List.drop_length]
  rw [this]
  rfl
theorem sB_asked {d : Dk} (h : d.dead = false) : askedE sB d 0 = 0 := by
  unfold askedE
  rw [h]
  rfl
theorem s_write {d : Dk} (h : d.Calm) (hn : d.n = 1) (t : ByteArray) (x : Int) : sB.writeE d 0 t x = bytesE t x ∧ (bytesE t x = 0 → sB.writeD d 0 t x = d.put 0 (bytesV t x)) ∧ sB.writeB d 0 t x = sB := by
  have ha := sB_asked h.d
  have hw : bytesE t x = 0 → d.writeE0 ((sB.first : Int) + 0) (bytesV t x) = 0 := fun hb => by
    unfold Dk.writeE0
    rw [h.d, if_neg (by simp), if_neg (by show ¬ ((0 : Int) + 0 < 0 ∨ (d.n : Int) ≤ (0 : Int) + 0); omega), if_neg (by rw [bytesV_ok hb]; omega)]
  refine ⟨?_, fun hb => ?_, ?_⟩
  · unfold Bv.writeE
    rw [if_neg (by omega)]
    by_cases hb : bytesE t x = 0
    · rw [if_neg (by omega), h.writeE, hw hb, hb]
    · rw [if_pos hb]
  · unfold Bv.writeD
    rw [if_neg (by omega), if_neg (by omega), h.writeS, if_pos (hw hb)]
    rfl
  · unfold Bv.writeB
    split
    · rfl
    · exact sB_touch _
theorem put_calm {d : Dk} (h : d.Calm) (i : Nat) (t : ByteArray) : (d.put i t).Calm := ⟨h.a, h.d⟩
theorem sD_calm : sD.Calm := ⟨rfl, rfl⟩
theorem sD_n : sD.n = 1 := by kernel_rfl
theorem sB_find (i : Int) : sB.find i = none := rfl
/-- The disk behind both writes, and behind the crash. -/
def sD2 (a : ByteArray) : Dk := (sD.put 0 a).settle 0 1
def sD5 (a b : ByteArray) (c : Int) : Dk := (((sD2 a).put 0 b).die [c]).revive
theorem sD2_calm (a : ByteArray) : (sD2 a).Calm := ⟨rfl, rfl⟩
theorem sD2_n (a : ByteArray) : (sD2 a).n = 1 := sD_n
theorem sD2_s (a : ByteArray) (i : Nat) (hi : i < 128) : (sD2 a).s i = at8 a i := by
  show (if 0 ≤ i / 128 ∧ i / 128 < 1 then rdB (sD.put 0 a) i else _) = _
  rw [if_pos (by omega)]
  unfold rdB Dk.put
  simp only
  rw [if_pos (by omega)]
  simp only
  rw [Nat.mod_eq_of_lt hi]
theorem sD3_sec (a b : ByteArray) : ((sD2 a).put 0 b).sec 0 = b := by
  unfold Dk.sec Dk.put
  simp
theorem sD5_sec (a b : ByteArray) (c : Int) : (sD5 a b c).sec 0 = mix (clamp c) b a := by
  show bs (leftB ((sD2 a).put 0 b) (chAt [c])) (0 * 128) 128 = _
  unfold mix
  refine bs_congr fun i hi => ?_
  rw [Nat.zero_mul, Nat.zero_add]
  unfold leftB Dk.put
  simp only
  have h0 : i / 128 = 0 := by omega
  rw [h0, if_pos rfl]
  simp only
  rw [Nat.mod_eq_of_lt hi]
  have hc : chAt [c] 0 = c := rfl
  rw [hc]
  split
  · rfl
  · exact sD2_s a i hi
theorem s_bar (a : ByteArray) : sB.barrierE (sD.put 0 a) = 0 ∧ sB.barrierD (sD.put 0 a) = sD2 a := by
  obtain ⟨h1, h2⟩ := flush_ok (put_calm sD_calm 0 a) 0 1 (by show 0 + 1 ≤ sD.n; rw [sD_n]; omega)
  unfold Bv.barrierE Bv.barrierD
  have hd : (sD.put 0 a).dead = false := rfl
  have e1 : sB.first = 0 := rfl
  have e2 : sB.count = 1 := rfl
  rw [hd, e1, e2, if_neg (by simp), if_neg (by simp)]
  exact ⟨h1, h2⟩
/-- What BlockStamps' calls tell. -/
structure St1 (w : World) (Z : ByteArray) (D0 D1 : Dk) (b : Bv) (A : ByteArray) (o E1 : Int) : Prop where
  z : ∀ W, Fr [] w W → Calls Try.prog 20 #[.int .i64 128] W fun e w' => e = .returned (.string Z) ∧ Fr [] w w'
  new : ∀ W, Fr [] w W → Calls Try.prog 22 #[.string Z] W fun e w' => ∃ p, e = .returned (.tuple #[ptr p, .int .i64 0]) ∧ Dd w w' p D0
  bnew : ∀ W p, Dd w W p D0 → Calls Try.prog 23 #[ptr p, .int .i64 0, .int .i64 1, .int .i64 0] W fun e w' => ∃ v, e = .returned (.tuple #[ptr v, .int .i64 0]) ∧ Dv w w' v p b D0
  w1 : ∀ W v p, Dv w W v p b D0 → Calls Try.prog 25 #[ptr v, .int .i64 0, .string A, .int .i64 o] W fun e w' => e = .returned (.int .i64 E1) ∧ Dv w w' v p b D1
  fx : ∀ W v p b' d', Dv w W v p b' d' → Calls Try.prog 19 #[] W fun e w' => e = .returned (.bool true) ∧ Fr [] w w'
structure St2 (w : World) (D1 D2 D3 : Dk) (b : Bv) (B : ByteArray) (n E2 : Int) : Prop where
  bar : ∀ W v p, Dv w W v p b D1 → Calls Try.prog 26 #[ptr v] W fun e w' => e = .returned (.int .i64 0) ∧ Dv w w' v p b D2
  w2 : ∀ W v p, Dv w W v p b D2 → Calls Try.prog 25 #[ptr v, .int .i64 0, .string B, .int .i64 n] W fun e w' => e = .returned (.int .i64 E2) ∧ Dv w w' v p b D3
structure St3 (w : World) (D3 D4 D5 : Dk) (b b3 : Bv) (PB : ByteArray) (n c : Int) (R1 R2 : Value) : Prop where
  rd : ∀ W v p, Dv w W v p b D3 → Calls Try.prog 24 #[ptr v, .int .i64 0] W fun e w' => e = .returned (.tuple #[.string PB, .int .i64 n, .int .i64 0]) ∧ Dv w w' v p b3 D3
  cr : ∀ W v p A n cap, Dv w W v p b3 D3 → Zw W (.slice A n cap) [c] → Calls Try.prog 32 #[ptr p, .slice A n cap] W fun e w' => e = .returned (.int .i64 0) ∧ Dv w w' v p b3 D4
  rev : ∀ W v p, Dv w W v p b3 D4 → Calls Try.prog 33 #[ptr p] W fun e w' => e = .returned (.tuple #[]) ∧ Dv w w' v p b3 D5
  bnew2 : ∀ W v p, Dv w W v p b3 D5 → Calls Try.prog 23 #[ptr p, .int .i64 0, .int .i64 1, .int .i64 0] W fun e w' => ∃ v2, e = .returned (.tuple #[ptr v2, .int .i64 0]) ∧ Dv w w' v2 p b D5
  st : ∀ W v p, Dv w W v p b D5 → Calls Try.prog 34 #[ptr v, .int .i64 0] W fun e w' => e = .returned R1 ∧ Dv w w' v p b D5
  rd2 : ∀ W v p, Dv w W v p b D5 → Calls Try.prog 24 #[ptr v, .int .i64 0] W fun e w' => ∃ b', e = .returned R2 ∧ Dv w w' v p b' D5
theorem st1 (w : World) (A : ByteArray) (o : Int) (hA : A.size ≤ maxLen) : St1 w (zeros 128) sD (sB.writeD sD 0 A o) sB A o (bytesE A o) where
  z := fun W hf => (noughts15_any 128 (by omega) W).mono fun e w' ⟨he, h⟩ => ⟨he, hf.trans h⟩
  new := fun W hf => (Dd.new (zeros 128) W (by kernel_rfl)).mono fun e w' ⟨p, he, h⟩ => ⟨p, he, h.base hf⟩
  bnew := fun W p h => NewB_ok h 0 1 0 (by kernel_rfl)
  w1 := fun W v p h => (WriteB_any h 0 A o hA).mono fun e w' ⟨he, hw⟩ => ⟨by rw [he, (s_write sD_calm sD_n A o).1], by rw [(s_write sD_calm sD_n A o).2.2] at hw; exact hw⟩
  fx := fun W v p b' d' h => h.fixed15.mono fun e w' ⟨he, hw⟩ => ⟨he, hw.fr⟩
theorem st2 (w : World) (A B : ByteArray) (o n : Int) (hB : B.size ≤ maxLen) (h0 : bytesE A o = 0) : St2 w (sB.writeD sD 0 A o) (sD2 (bytesV A o)) (sB.writeD (sD2 (bytesV A o)) 0 B n) sB B n (bytesE B n) where
  bar := fun W v p h => (Barrier_any h).mono fun e w' ⟨he, hw⟩ => by
    rw [(s_write sD_calm sD_n A o).2.1 h0] at he hw
    exact ⟨by rw [he, (s_bar _).1], by rw [(s_bar _).2] at hw; exact hw⟩
  w2 := fun W v p h => (WriteB_any h 0 B n hB).mono fun e w' ⟨he, hw⟩ => ⟨by rw [he, (s_write (sD2_calm _) (sD2_n _) B n).1], by rw [(s_write (sD2_calm _) (sD2_n _) B n).2.2] at hw; exact hw⟩
theorem sB_zero : sB.first + (0 : Int).toNat = 0 := rfl
theorem st3 (w : World) (A B : ByteArray) (o n c : Int) (hA : bytesE A o = 0) (hB : bytesE B n = 0) : St3 w (sB.writeD (sD2 (bytesV A o)) 0 B n) (((sD2 (bytesV A o)).put 0 (bytesV B n)).die [c]) (sD5 (bytesV A o) (bytesV B n) c) sB sB.miss (padB B) n c
    (sB.stampV (sD5 (bytesV A o) (bytesV B n) c) 0) (ParseR (mix (clamp c) (bytesV B n) (bytesV A o))) where
  rd := fun W v p h => (ReadB_any h 0 (by decide)).mono fun e w' ⟨he, hw⟩ => by
    rw [(s_write (sD2_calm _) (sD2_n _) B n).2.1 hB] at he hw ⊢
    have ha : askedE sB ((sD2 (bytesV A o)).put 0 (bytesV B n)) 0 = 0 := sB_asked rfl
    have e1 : sB.readV ((sD2 (bytesV A o)).put 0 (bytesV B n)) 0 = .tuple #[.string (padB B), .int .i64 n, .int .i64 0] := by
      unfold Bv.readV
      rw [if_neg (by omega), sB_find]
      simp only []
      rw [sB_zero, sD3_sec, parseR_bytes hB]
    have e2 : sB.readB ((sD2 (bytesV A o)).put 0 (bytesV B n)) 0 = sB.miss := by
      unfold Bv.readB
      rw [if_neg (by omega), sB_find]
      simp only []
      split
      · exact sB_miss_touch _
      · rfl
    exact ⟨by rw [he, e1], by rw [e2] at hw; exact hw⟩
  cr := fun W v p A' n' cap h hz => by
    have := h.crash hz
    rw [(s_write (sD2_calm _) (sD2_n _) B n).2.1 hB] at this h
    exact this
  rev := fun W v p h => h.revive
  bnew2 := fun W v p h => NewB_ok h.dd 0 1 0 (by
    have e : (sD5 (bytesV A o) (bytesV B n) c).n = 1 := sD_n
    unfold newBE
    rw [e]
    decide)
  st := fun W v p h => Stamp_any h 0
  rd2 := fun W v p h => (ReadB_any h 0 (by decide)).mono fun e w' ⟨he, hw⟩ => ⟨_, by
    have ha : askedE sB (sD5 (bytesV A o) (bytesV B n) c) 0 = 0 := sB_asked rfl
    have e1 : sB.readV (sD5 (bytesV A o) (bytesV B n) c) 0 = ParseR (mix (clamp c) (bytesV B n) (bytesV A o)) := by
      unfold Bv.readV
      rw [if_neg (by omega), sB_find]
      simp only []
      rw [sB_zero, sD5_sec]
    rw [he, e1], hw⟩
theorem stampV_mix (A B : ByteArray) (o n c : Int) : sB.stampV (sD5 (bytesV A o) (bytesV B n) c) 0 = (if stampedE (mix (clamp c) (bytesV B n) (bytesV A o)) = false then .tuple #[.int .i64 0, .int .i64 153] else .tuple #[.int .i64 (stampOf (mix (clamp c) (bytesV B n) (bytesV A o)) : Int), .int .i64 0]) := by
  have ha : askedE sB (sD5 (bytesV A o) (bytesV B n) c) 0 = 0 := sB_asked rfl
  unfold Bv.stampV
  rw [if_neg (by omega), sB_zero, sD5_sec]
theorem zs1 (w : World) (c : Int) : Zw (w.alloc (.cells #[.int .i64 c] 3)) (.slice (some ⟨w.heap.size, 0, none⟩) 1 1) [c] :=
  ⟨_, 1, rfl, Nat.le_refl _, by simp [maxLen], (fun h => by cases h), fun j x hj => by
    match j, hj with
    | 0, hj => injection hj with hj; subst hj; exact ⟨_, 0, rfl, by rw [World.size_alloc]; omega, (Blk.new w 3 #[.int .i64 c]).cell 0⟩
    | _ + 1, hj => simp at hj⟩
set_option maxRecDepth 100000 in
set_option maxHeartbeats 4000000 in
theorem stamps_same (w : World) (Z : ByteArray) (D0 D1 D2 D3 D4 D5 : Dk) (b b3 : Bv) (A B PB : ByteArray) (o n c E1 E2 : Int) (R1 R2 : Value) (hS1 : St1 (w.alloc (.cells #[.string A, .string B, .int .i64 o, .int .i64 n, .int .i64 c] 53)) Z D0 D1 b A o E1) (hon : o = n) :
    Calls Try.prog 7 #[.agg #[.string A, .string B, .int .i64 o, .int .i64 n, .int .i64 c]] w fun e w' => e = .returned (.bool true) ∧ Fr [] w w' := by
  have hb0 := Blk.new w 53 #[.string A, .string B, .int .i64 o, .int .i64 n, .int .i64 c]
  have Hf0 := Lib.hid ((Fr.refl [] w).alloc (.cells #[.string A, .string B, .int .i64 o, .int .i64 n, .int .i64 c] 53))
  have HB := Lib.hid (fun W (hf : Fr [] (w.alloc (.cells #[.string A, .string B, .int .i64 o, .int .i64 n, .int .i64 c] 53)) W) => (show W.cell? ⟨w.heap.size, 0, none⟩ = some (.string A) ∧ W.cell? ⟨w.heap.size, 1, none⟩ = some (.string B) ∧ W.cell? ⟨w.heap.size, 2, none⟩ = some (.int .i64 o) ∧ W.cell? ⟨w.heap.size, 3, none⟩ = some (.int .i64 n) ∧ W.cell? ⟨w.heap.size, 4, none⟩ = some (.int .i64 c) from ⟨hf.cell_some (hb0.cell 0) (by simp), hf.cell_some (hb0.cell 1) (by simp), hf.cell_some (hb0.cell 2) (by simp), hf.cell_some (hb0.cell 3) (by simp), hf.cell_some (hb0.cell 4) (by simp)⟩))
  have S1 := Lib.hid hS1
  subst hon
  clear hb0 hS1
  go_enter Try.func7, Try.ntmps7
  go_wp2_with (first
    | (go_at_call 20; refine (S1.out.z _ (Fr.refl _ _)).mono ?_; rintro e w1 ⟨rfl, hf1⟩)
    | (go_at_call 22; refine (S1.out.new _ hf1).mono ?_; rintro e w2 ⟨p, rfl, hp⟩)
    | (go_at_call 23; have hq := S1.out.bnew _ _ hp; clear hp; refine hq.mono ?_; rintro e w3 ⟨v, rfl, hd⟩; clear hq; obtain ⟨q0, q1, q2, q3, q4⟩ := HB.out _ hd.fr)
    | (go_at_call 25; have hq := S1.out.w1 _ _ _ hd; clear hd q0 q1 q2 q3 q4; refine hq.mono ?_; rintro e w4 ⟨rfl, hd⟩; clear hq; obtain ⟨q0, q1, q2, q3, q4⟩ := HB.out _ hd.fr)
    | (go_at_call 19; refine (S1.out.fx _ _ _ _ _ hd).mono ?_; rintro e w13 ⟨rfl, hfe⟩))
  go_ret
  exact ⟨rfl, Hf0.out.trans hfe⟩
set_option maxRecDepth 100000 in
set_option maxHeartbeats 4000000 in
theorem stamps_no1 (w : World) (Z : ByteArray) (D0 D1 D2 D3 D4 D5 : Dk) (b b3 : Bv) (A B PB : ByteArray) (o n c E1 E2 : Int) (R1 R2 : Value) (hS1 : St1 (w.alloc (.cells #[.string A, .string B, .int .i64 o, .int .i64 n, .int .i64 c] 53)) Z D0 D1 b A o E1) (hon : ¬ o = n) (hE1 : E1 ≠ 0) :
    Calls Try.prog 7 #[.agg #[.string A, .string B, .int .i64 o, .int .i64 n, .int .i64 c]] w fun e w' => e = .returned (.bool true) ∧ Fr [] w w' := by
  have hb0 := Blk.new w 53 #[.string A, .string B, .int .i64 o, .int .i64 n, .int .i64 c]
  have Hf0 := Lib.hid ((Fr.refl [] w).alloc (.cells #[.string A, .string B, .int .i64 o, .int .i64 n, .int .i64 c] 53))
  have HB := Lib.hid (fun W (hf : Fr [] (w.alloc (.cells #[.string A, .string B, .int .i64 o, .int .i64 n, .int .i64 c] 53)) W) => (show W.cell? ⟨w.heap.size, 0, none⟩ = some (.string A) ∧ W.cell? ⟨w.heap.size, 1, none⟩ = some (.string B) ∧ W.cell? ⟨w.heap.size, 2, none⟩ = some (.int .i64 o) ∧ W.cell? ⟨w.heap.size, 3, none⟩ = some (.int .i64 n) ∧ W.cell? ⟨w.heap.size, 4, none⟩ = some (.int .i64 c) from ⟨hf.cell_some (hb0.cell 0) (by simp), hf.cell_some (hb0.cell 1) (by simp), hf.cell_some (hb0.cell 2) (by simp), hf.cell_some (hb0.cell 3) (by simp), hf.cell_some (hb0.cell 4) (by simp)⟩))
  have S1 := Lib.hid hS1
  have hE1' : ¬ E1 = 0 := hE1
  clear hE1
  clear hb0 hS1
  go_enter Try.func7, Try.ntmps7
  go_wp2_with (first
    | (go_at_call 20; refine (S1.out.z _ (Fr.refl _ _)).mono ?_; rintro e w1 ⟨rfl, hf1⟩)
    | (go_at_call 22; refine (S1.out.new _ hf1).mono ?_; rintro e w2 ⟨p, rfl, hp⟩)
    | (go_at_call 23; have hq := S1.out.bnew _ _ hp; clear hp; refine hq.mono ?_; rintro e w3 ⟨v, rfl, hd⟩; clear hq; obtain ⟨q0, q1, q2, q3, q4⟩ := HB.out _ hd.fr)
    | (go_at_call 25; have hq := S1.out.w1 _ _ _ hd; clear hd q0 q1 q2 q3 q4; refine hq.mono ?_; rintro e w4 ⟨rfl, hd⟩; clear hq; obtain ⟨q0, q1, q2, q3, q4⟩ := HB.out _ hd.fr)
    | (go_at_call 19; refine (S1.out.fx _ _ _ _ _ hd).mono ?_; rintro e w13 ⟨rfl, hfe⟩))
  go_ret
  exact ⟨rfl, Hf0.out.trans hfe⟩
set_option maxRecDepth 100000 in
set_option maxHeartbeats 4000000 in
theorem stamps_no2 (w : World) (Z : ByteArray) (D0 D1 D2 D3 D4 D5 : Dk) (b b3 : Bv) (A B PB : ByteArray) (o n c E1 E2 : Int) (R1 R2 : Value) (hS1 : St1 (w.alloc (.cells #[.string A, .string B, .int .i64 o, .int .i64 n, .int .i64 c] 53)) Z D0 D1 b A o E1) (hon : ¬ o = n) (hE1 : E1 = 0) (hE2 : E2 ≠ 0) (hS2 : St2 (w.alloc (.cells #[.string A, .string B, .int .i64 o, .int .i64 n, .int .i64 c] 53)) D1 D2 D3 b B n E2) :
    Calls Try.prog 7 #[.agg #[.string A, .string B, .int .i64 o, .int .i64 n, .int .i64 c]] w fun e w' => e = .returned (.bool true) ∧ Fr [] w w' := by
  have hb0 := Blk.new w 53 #[.string A, .string B, .int .i64 o, .int .i64 n, .int .i64 c]
  have Hf0 := Lib.hid ((Fr.refl [] w).alloc (.cells #[.string A, .string B, .int .i64 o, .int .i64 n, .int .i64 c] 53))
  have HB := Lib.hid (fun W (hf : Fr [] (w.alloc (.cells #[.string A, .string B, .int .i64 o, .int .i64 n, .int .i64 c] 53)) W) => (show W.cell? ⟨w.heap.size, 0, none⟩ = some (.string A) ∧ W.cell? ⟨w.heap.size, 1, none⟩ = some (.string B) ∧ W.cell? ⟨w.heap.size, 2, none⟩ = some (.int .i64 o) ∧ W.cell? ⟨w.heap.size, 3, none⟩ = some (.int .i64 n) ∧ W.cell? ⟨w.heap.size, 4, none⟩ = some (.int .i64 c) from ⟨hf.cell_some (hb0.cell 0) (by simp), hf.cell_some (hb0.cell 1) (by simp), hf.cell_some (hb0.cell 2) (by simp), hf.cell_some (hb0.cell 3) (by simp), hf.cell_some (hb0.cell 4) (by simp)⟩))
  have S1 := Lib.hid hS1
  have hE2' : ¬ E2 = 0 := hE2
  clear hE2
  subst hE1
  have S2 := Lib.hid hS2
  clear hS2
  clear hb0 hS1
  go_enter Try.func7, Try.ntmps7
  go_wp2_with (first
    | (go_at_call 20; refine (S1.out.z _ (Fr.refl _ _)).mono ?_; rintro e w1 ⟨rfl, hf1⟩)
    | (go_at_call 22; refine (S1.out.new _ hf1).mono ?_; rintro e w2 ⟨p, rfl, hp⟩)
    | (go_at_call 23; have hq := S1.out.bnew _ _ hp; clear hp; refine hq.mono ?_; rintro e w3 ⟨v, rfl, hd⟩; clear hq; obtain ⟨q0, q1, q2, q3, q4⟩ := HB.out _ hd.fr)
    | (go_at_call 25; first | (have hq := S2.out.w2 _ _ _ hd; clear hd q0 q1 q2 q3 q4; refine hq.mono ?_; rintro e w6 ⟨rfl, hd⟩; clear hq; obtain ⟨q0, q1, q2, q3, q4⟩ := HB.out _ hd.fr) | (have hq := S1.out.w1 _ _ _ hd; clear hd q0 q1 q2 q3 q4; refine hq.mono ?_; rintro e w4 ⟨rfl, hd⟩; clear hq; obtain ⟨q0, q1, q2, q3, q4⟩ := HB.out _ hd.fr))
    | (go_at_call 26; have hq := S2.out.bar _ _ _ hd; clear hd q0 q1 q2 q3 q4; refine hq.mono ?_; rintro e w5 ⟨rfl, hd⟩; clear hq; obtain ⟨q0, q1, q2, q3, q4⟩ := HB.out _ hd.fr)
    | (go_at_call 19; refine (S1.out.fx _ _ _ _ _ hd).mono ?_; rintro e w13 ⟨rfl, hfe⟩))
  go_ret
  exact ⟨rfl, Hf0.out.trans hfe⟩
set_option maxRecDepth 100000 in
set_option maxHeartbeats 4000000 in
theorem stamps_a (w : World) (Z : ByteArray) (D0 D1 D2 D3 D4 D5 : Dk) (b b3 : Bv) (A B PB : ByteArray) (o n c E1 E2 : Int) (R1 R2 : Value) (hS1 : St1 (w.alloc (.cells #[.string A, .string B, .int .i64 o, .int .i64 n, .int .i64 c] 53)) Z D0 D1 b A o E1) (hon : ¬ o = n) (hE1 : E1 = 0) (hE2 : E2 = 0) (hS2 : St2 (w.alloc (.cells #[.string A, .string B, .int .i64 o, .int .i64 n, .int .i64 c] 53)) D1 D2 D3 b B n E2) (hS3 : St3 (w.alloc (.cells #[.string A, .string B, .int .i64 o, .int .i64 n, .int .i64 c] 53)) D3 D4 D5 b b3 PB n c R1 R2) (u : ByteArray) (k f : Int) (hR1 : R1 = .tuple #[.int .i64 0, .int .i64 153]) (hR2 : R2 = .tuple #[.string u, .int .i64 k, .int .i64 f]) (hc : c < 128) :
    Calls Try.prog 7 #[.agg #[.string A, .string B, .int .i64 o, .int .i64 n, .int .i64 c]] w fun e w' => e = .returned (.bool true) ∧ Fr [] w w' := by
  have hb0 := Blk.new w 53 #[.string A, .string B, .int .i64 o, .int .i64 n, .int .i64 c]
  have Hf0 := Lib.hid ((Fr.refl [] w).alloc (.cells #[.string A, .string B, .int .i64 o, .int .i64 n, .int .i64 c] 53))
  have HB := Lib.hid (fun W (hf : Fr [] (w.alloc (.cells #[.string A, .string B, .int .i64 o, .int .i64 n, .int .i64 c] 53)) W) => (show W.cell? ⟨w.heap.size, 0, none⟩ = some (.string A) ∧ W.cell? ⟨w.heap.size, 1, none⟩ = some (.string B) ∧ W.cell? ⟨w.heap.size, 2, none⟩ = some (.int .i64 o) ∧ W.cell? ⟨w.heap.size, 3, none⟩ = some (.int .i64 n) ∧ W.cell? ⟨w.heap.size, 4, none⟩ = some (.int .i64 c) from ⟨hf.cell_some (hb0.cell 0) (by simp), hf.cell_some (hb0.cell 1) (by simp), hf.cell_some (hb0.cell 2) (by simp), hf.cell_some (hb0.cell 3) (by simp), hf.cell_some (hb0.cell 4) (by simp)⟩))
  have S1 := Lib.hid hS1
  subst hR1
  subst hR2
  subst hE1
  subst hE2
  have S2 := Lib.hid hS2
  clear hS2
  have S3 := Lib.hid hS3
  clear hS3
  clear hb0 hS1
  go_enter Try.func7, Try.ntmps7
  go_wp2_with (first
    | (go_at_call 20; refine (S1.out.z _ (Fr.refl _ _)).mono ?_; rintro e w1 ⟨rfl, hf1⟩)
    | (go_at_call 22; refine (S1.out.new _ hf1).mono ?_; rintro e w2 ⟨p, rfl, hp⟩)
    | (go_at_call 23; first | (have hq := S3.out.bnew2 _ _ _ hd; clear hd; refine hq.mono ?_; rintro e w3b ⟨v2, rfl, hd⟩; clear hq; obtain ⟨q0, q1, q2, q3, q4⟩ := HB.out _ hd.fr) | (have hq := S1.out.bnew _ _ hp; clear hp; refine hq.mono ?_; rintro e w3 ⟨v, rfl, hd⟩; clear hq; obtain ⟨q0, q1, q2, q3, q4⟩ := HB.out _ hd.fr))
    | (go_at_call 25; first | (have hq := S2.out.w2 _ _ _ hd; clear hd q0 q1 q2 q3 q4; refine hq.mono ?_; rintro e w6 ⟨rfl, hd⟩; clear hq; obtain ⟨q0, q1, q2, q3, q4⟩ := HB.out _ hd.fr) | (have hq := S1.out.w1 _ _ _ hd; clear hd q0 q1 q2 q3 q4; refine hq.mono ?_; rintro e w4 ⟨rfl, hd⟩; clear hq; obtain ⟨q0, q1, q2, q3, q4⟩ := HB.out _ hd.fr))
    | (go_at_call 26; have hq := S2.out.bar _ _ _ hd; clear hd q0 q1 q2 q3 q4; refine hq.mono ?_; rintro e w5 ⟨rfl, hd⟩; clear hq; obtain ⟨q0, q1, q2, q3, q4⟩ := HB.out _ hd.fr)
    | (go_at_call 24; first | (have hq := S3.out.rd _ _ _ hd; clear hd q0 q1 q2 q3 q4; refine hq.mono ?_; rintro e w7 ⟨rfl, hd⟩; clear hq; obtain ⟨q0, q1, q2, q3, q4⟩ := HB.out _ hd.fr) | (have hq := S3.out.rd2 _ _ _ hd; clear hd q0 q1 q2 q3 q4; refine hq.mono ?_; rintro e w12 ⟨b9, rfl, hd⟩; clear hq; obtain ⟨q0, q1, q2, q3, q4⟩ := HB.out _ hd.fr))
    | (go_at_call 32; have hq := S3.out.cr _ _ _ _ _ _ (hd.to ((Fr.refl [] _).alloc _)) (zs1 _ c); clear hd q0 q1 q2 q3 q4; refine hq.mono ?_; rintro e w8 ⟨rfl, hd⟩; clear hq)
    | (go_at_call 33; have hq := S3.out.rev _ _ _ hd; clear hd; refine hq.mono ?_; rintro e w9 ⟨rfl, hd⟩; clear hq)
    | (go_at_call 34; have hq := S3.out.st _ _ _ hd; clear hd q0 q1 q2 q3 q4; refine hq.mono ?_; rintro e w11 ⟨rfl, hd⟩; clear hq; obtain ⟨q0, q1, q2, q3, q4⟩ := HB.out _ hd.fr)
    | (go_at_call 19; refine (S1.out.fx _ _ _ _ _ hd).mono ?_; rintro e w13 ⟨rfl, hfe⟩))
  go_ret
  exact ⟨rfl, Hf0.out.trans hfe⟩
set_option maxRecDepth 100000 in
set_option maxHeartbeats 4000000 in
theorem stamps_b (w : World) (Z : ByteArray) (D0 D1 D2 D3 D4 D5 : Dk) (b b3 : Bv) (A B PB : ByteArray) (o n c E1 E2 : Int) (R1 R2 : Value) (hS1 : St1 (w.alloc (.cells #[.string A, .string B, .int .i64 o, .int .i64 n, .int .i64 c] 53)) Z D0 D1 b A o E1) (hon : ¬ o = n) (hE1 : E1 = 0) (hE2 : E2 = 0) (hS2 : St2 (w.alloc (.cells #[.string A, .string B, .int .i64 o, .int .i64 n, .int .i64 c] 53)) D1 D2 D3 b B n E2) (hS3 : St3 (w.alloc (.cells #[.string A, .string B, .int .i64 o, .int .i64 n, .int .i64 c] 53)) D3 D4 D5 b b3 PB n c R1 R2) (hR1 : R1 = .tuple #[.int .i64 n, .int .i64 0]) (hR2 : R2 = .tuple #[.string PB, .int .i64 n, .int .i64 0]) (hc : c < 128) :
    Calls Try.prog 7 #[.agg #[.string A, .string B, .int .i64 o, .int .i64 n, .int .i64 c]] w fun e w' => e = .returned (.bool true) ∧ Fr [] w w' := by
  have hb0 := Blk.new w 53 #[.string A, .string B, .int .i64 o, .int .i64 n, .int .i64 c]
  have Hf0 := Lib.hid ((Fr.refl [] w).alloc (.cells #[.string A, .string B, .int .i64 o, .int .i64 n, .int .i64 c] 53))
  have HB := Lib.hid (fun W (hf : Fr [] (w.alloc (.cells #[.string A, .string B, .int .i64 o, .int .i64 n, .int .i64 c] 53)) W) => (show W.cell? ⟨w.heap.size, 0, none⟩ = some (.string A) ∧ W.cell? ⟨w.heap.size, 1, none⟩ = some (.string B) ∧ W.cell? ⟨w.heap.size, 2, none⟩ = some (.int .i64 o) ∧ W.cell? ⟨w.heap.size, 3, none⟩ = some (.int .i64 n) ∧ W.cell? ⟨w.heap.size, 4, none⟩ = some (.int .i64 c) from ⟨hf.cell_some (hb0.cell 0) (by simp), hf.cell_some (hb0.cell 1) (by simp), hf.cell_some (hb0.cell 2) (by simp), hf.cell_some (hb0.cell 3) (by simp), hf.cell_some (hb0.cell 4) (by simp)⟩))
  have S1 := Lib.hid hS1
  subst hR1
  subst hR2
  subst hE1
  subst hE2
  have S2 := Lib.hid hS2
  clear hS2
  have S3 := Lib.hid hS3
  clear hS3
  clear hb0 hS1
  go_enter Try.func7, Try.ntmps7
  go_wp2_with (first
    | (go_at_call 20; refine (S1.out.z _ (Fr.refl _ _)).mono ?_; rintro e w1 ⟨rfl, hf1⟩)
    | (go_at_call 22; refine (S1.out.new _ hf1).mono ?_; rintro e w2 ⟨p, rfl, hp⟩)
    | (go_at_call 23; first | (have hq := S3.out.bnew2 _ _ _ hd; clear hd; refine hq.mono ?_; rintro e w3b ⟨v2, rfl, hd⟩; clear hq; obtain ⟨q0, q1, q2, q3, q4⟩ := HB.out _ hd.fr) | (have hq := S1.out.bnew _ _ hp; clear hp; refine hq.mono ?_; rintro e w3 ⟨v, rfl, hd⟩; clear hq; obtain ⟨q0, q1, q2, q3, q4⟩ := HB.out _ hd.fr))
    | (go_at_call 25; first | (have hq := S2.out.w2 _ _ _ hd; clear hd q0 q1 q2 q3 q4; refine hq.mono ?_; rintro e w6 ⟨rfl, hd⟩; clear hq; obtain ⟨q0, q1, q2, q3, q4⟩ := HB.out _ hd.fr) | (have hq := S1.out.w1 _ _ _ hd; clear hd q0 q1 q2 q3 q4; refine hq.mono ?_; rintro e w4 ⟨rfl, hd⟩; clear hq; obtain ⟨q0, q1, q2, q3, q4⟩ := HB.out _ hd.fr))
    | (go_at_call 26; have hq := S2.out.bar _ _ _ hd; clear hd q0 q1 q2 q3 q4; refine hq.mono ?_; rintro e w5 ⟨rfl, hd⟩; clear hq; obtain ⟨q0, q1, q2, q3, q4⟩ := HB.out _ hd.fr)
    | (go_at_call 24; first | (have hq := S3.out.rd _ _ _ hd; clear hd q0 q1 q2 q3 q4; refine hq.mono ?_; rintro e w7 ⟨rfl, hd⟩; clear hq; obtain ⟨q0, q1, q2, q3, q4⟩ := HB.out _ hd.fr) | (have hq := S3.out.rd2 _ _ _ hd; clear hd q0 q1 q2 q3 q4; refine hq.mono ?_; rintro e w12 ⟨b9, rfl, hd⟩; clear hq; obtain ⟨q0, q1, q2, q3, q4⟩ := HB.out _ hd.fr))
    | (go_at_call 32; have hq := S3.out.cr _ _ _ _ _ _ (hd.to ((Fr.refl [] _).alloc _)) (zs1 _ c); clear hd q0 q1 q2 q3 q4; refine hq.mono ?_; rintro e w8 ⟨rfl, hd⟩; clear hq)
    | (go_at_call 33; have hq := S3.out.rev _ _ _ hd; clear hd; refine hq.mono ?_; rintro e w9 ⟨rfl, hd⟩; clear hq)
    | (go_at_call 34; have hq := S3.out.st _ _ _ hd; clear hd q0 q1 q2 q3 q4; refine hq.mono ?_; rintro e w11 ⟨rfl, hd⟩; clear hq; obtain ⟨q0, q1, q2, q3, q4⟩ := HB.out _ hd.fr)
    | (go_at_call 19; refine (S1.out.fx _ _ _ _ _ hd).mono ?_; rintro e w13 ⟨rfl, hfe⟩))
  go_ret
  exact ⟨rfl, Hf0.out.trans hfe⟩
set_option maxRecDepth 100000 in
set_option maxHeartbeats 4000000 in
theorem stamps_b2 (w : World) (Z : ByteArray) (D0 D1 D2 D3 D4 D5 : Dk) (b b3 : Bv) (A B PB : ByteArray) (o n c E1 E2 : Int) (R1 R2 : Value) (hS1 : St1 (w.alloc (.cells #[.string A, .string B, .int .i64 o, .int .i64 n, .int .i64 c] 53)) Z D0 D1 b A o E1) (hon : ¬ o = n) (hE1 : E1 = 0) (hE2 : E2 = 0) (hS2 : St2 (w.alloc (.cells #[.string A, .string B, .int .i64 o, .int .i64 n, .int .i64 c] 53)) D1 D2 D3 b B n E2) (hS3 : St3 (w.alloc (.cells #[.string A, .string B, .int .i64 o, .int .i64 n, .int .i64 c] 53)) D3 D4 D5 b b3 PB n c R1 R2) (hR1 : R1 = .tuple #[.int .i64 n, .int .i64 0]) (hR2 : R2 = .tuple #[.string PB, .int .i64 n, .int .i64 0]) (hc : ¬ c < 128) :
    Calls Try.prog 7 #[.agg #[.string A, .string B, .int .i64 o, .int .i64 n, .int .i64 c]] w fun e w' => e = .returned (.bool true) ∧ Fr [] w w' := by
  have hb0 := Blk.new w 53 #[.string A, .string B, .int .i64 o, .int .i64 n, .int .i64 c]
  have Hf0 := Lib.hid ((Fr.refl [] w).alloc (.cells #[.string A, .string B, .int .i64 o, .int .i64 n, .int .i64 c] 53))
  have HB := Lib.hid (fun W (hf : Fr [] (w.alloc (.cells #[.string A, .string B, .int .i64 o, .int .i64 n, .int .i64 c] 53)) W) => (show W.cell? ⟨w.heap.size, 0, none⟩ = some (.string A) ∧ W.cell? ⟨w.heap.size, 1, none⟩ = some (.string B) ∧ W.cell? ⟨w.heap.size, 2, none⟩ = some (.int .i64 o) ∧ W.cell? ⟨w.heap.size, 3, none⟩ = some (.int .i64 n) ∧ W.cell? ⟨w.heap.size, 4, none⟩ = some (.int .i64 c) from ⟨hf.cell_some (hb0.cell 0) (by simp), hf.cell_some (hb0.cell 1) (by simp), hf.cell_some (hb0.cell 2) (by simp), hf.cell_some (hb0.cell 3) (by simp), hf.cell_some (hb0.cell 4) (by simp)⟩))
  have S1 := Lib.hid hS1
  subst hR1
  subst hR2
  subst hE1
  subst hE2
  have S2 := Lib.hid hS2
  clear hS2
  have S3 := Lib.hid hS3
  clear hS3
  clear hb0 hS1
  go_enter Try.func7, Try.ntmps7
  go_wp2_with (first
    | (go_at_call 20; refine (S1.out.z _ (Fr.refl _ _)).mono ?_; rintro e w1 ⟨rfl, hf1⟩)
    | (go_at_call 22; refine (S1.out.new _ hf1).mono ?_; rintro e w2 ⟨p, rfl, hp⟩)
    | (go_at_call 23; first | (have hq := S3.out.bnew2 _ _ _ hd; clear hd; refine hq.mono ?_; rintro e w3b ⟨v2, rfl, hd⟩; clear hq; obtain ⟨q0, q1, q2, q3, q4⟩ := HB.out _ hd.fr) | (have hq := S1.out.bnew _ _ hp; clear hp; refine hq.mono ?_; rintro e w3 ⟨v, rfl, hd⟩; clear hq; obtain ⟨q0, q1, q2, q3, q4⟩ := HB.out _ hd.fr))
    | (go_at_call 25; first | (have hq := S2.out.w2 _ _ _ hd; clear hd q0 q1 q2 q3 q4; refine hq.mono ?_; rintro e w6 ⟨rfl, hd⟩; clear hq; obtain ⟨q0, q1, q2, q3, q4⟩ := HB.out _ hd.fr) | (have hq := S1.out.w1 _ _ _ hd; clear hd q0 q1 q2 q3 q4; refine hq.mono ?_; rintro e w4 ⟨rfl, hd⟩; clear hq; obtain ⟨q0, q1, q2, q3, q4⟩ := HB.out _ hd.fr))
    | (go_at_call 26; have hq := S2.out.bar _ _ _ hd; clear hd q0 q1 q2 q3 q4; refine hq.mono ?_; rintro e w5 ⟨rfl, hd⟩; clear hq; obtain ⟨q0, q1, q2, q3, q4⟩ := HB.out _ hd.fr)
    | (go_at_call 24; first | (have hq := S3.out.rd _ _ _ hd; clear hd q0 q1 q2 q3 q4; refine hq.mono ?_; rintro e w7 ⟨rfl, hd⟩; clear hq; obtain ⟨q0, q1, q2, q3, q4⟩ := HB.out _ hd.fr) | (have hq := S3.out.rd2 _ _ _ hd; clear hd q0 q1 q2 q3 q4; refine hq.mono ?_; rintro e w12 ⟨b9, rfl, hd⟩; clear hq; obtain ⟨q0, q1, q2, q3, q4⟩ := HB.out _ hd.fr))
    | (go_at_call 32; have hq := S3.out.cr _ _ _ _ _ _ (hd.to ((Fr.refl [] _).alloc _)) (zs1 _ c); clear hd q0 q1 q2 q3 q4; refine hq.mono ?_; rintro e w8 ⟨rfl, hd⟩; clear hq)
    | (go_at_call 33; have hq := S3.out.rev _ _ _ hd; clear hd; refine hq.mono ?_; rintro e w9 ⟨rfl, hd⟩; clear hq)
    | (go_at_call 34; have hq := S3.out.st _ _ _ hd; clear hd q0 q1 q2 q3 q4; refine hq.mono ?_; rintro e w11 ⟨rfl, hd⟩; clear hq; obtain ⟨q0, q1, q2, q3, q4⟩ := HB.out _ hd.fr)
    | (go_at_call 19; refine (S1.out.fx _ _ _ _ _ hd).mono ?_; rintro e w13 ⟨rfl, hfe⟩))
  go_ret
  exact ⟨rfl, Hf0.out.trans hfe⟩
set_option maxRecDepth 100000 in
set_option maxHeartbeats 4000000 in
theorem stamps_c (w : World) (Z : ByteArray) (D0 D1 D2 D3 D4 D5 : Dk) (b b3 : Bv) (A B PB : ByteArray) (o n c E1 E2 : Int) (R1 R2 : Value) (hS1 : St1 (w.alloc (.cells #[.string A, .string B, .int .i64 o, .int .i64 n, .int .i64 c] 53)) Z D0 D1 b A o E1) (hon : ¬ o = n) (hE1 : E1 = 0) (hE2 : E2 = 0) (hS2 : St2 (w.alloc (.cells #[.string A, .string B, .int .i64 o, .int .i64 n, .int .i64 c] 53)) D1 D2 D3 b B n E2) (hS3 : St3 (w.alloc (.cells #[.string A, .string B, .int .i64 o, .int .i64 n, .int .i64 c] 53)) D3 D4 D5 b b3 PB n c R1 R2) (u : ByteArray) (m k f : Int) (hm : ¬ m = n) (hR1 : R1 = .tuple #[.int .i64 m, .int .i64 0]) (hR2 : R2 = .tuple #[.string u, .int .i64 k, .int .i64 f]) (hc : c < 128) :
    Calls Try.prog 7 #[.agg #[.string A, .string B, .int .i64 o, .int .i64 n, .int .i64 c]] w fun e w' => e = .returned (.bool true) ∧ Fr [] w w' := by
  have hb0 := Blk.new w 53 #[.string A, .string B, .int .i64 o, .int .i64 n, .int .i64 c]
  have Hf0 := Lib.hid ((Fr.refl [] w).alloc (.cells #[.string A, .string B, .int .i64 o, .int .i64 n, .int .i64 c] 53))
  have HB := Lib.hid (fun W (hf : Fr [] (w.alloc (.cells #[.string A, .string B, .int .i64 o, .int .i64 n, .int .i64 c] 53)) W) => (show W.cell? ⟨w.heap.size, 0, none⟩ = some (.string A) ∧ W.cell? ⟨w.heap.size, 1, none⟩ = some (.string B) ∧ W.cell? ⟨w.heap.size, 2, none⟩ = some (.int .i64 o) ∧ W.cell? ⟨w.heap.size, 3, none⟩ = some (.int .i64 n) ∧ W.cell? ⟨w.heap.size, 4, none⟩ = some (.int .i64 c) from ⟨hf.cell_some (hb0.cell 0) (by simp), hf.cell_some (hb0.cell 1) (by simp), hf.cell_some (hb0.cell 2) (by simp), hf.cell_some (hb0.cell 3) (by simp), hf.cell_some (hb0.cell 4) (by simp)⟩))
  have S1 := Lib.hid hS1
  subst hR1
  subst hR2
  subst hE1
  subst hE2
  have S2 := Lib.hid hS2
  clear hS2
  have S3 := Lib.hid hS3
  clear hS3
  clear hb0 hS1
  go_enter Try.func7, Try.ntmps7
  go_wp2_with (first
    | (go_at_call 20; refine (S1.out.z _ (Fr.refl _ _)).mono ?_; rintro e w1 ⟨rfl, hf1⟩)
    | (go_at_call 22; refine (S1.out.new _ hf1).mono ?_; rintro e w2 ⟨p, rfl, hp⟩)
    | (go_at_call 23; first | (have hq := S3.out.bnew2 _ _ _ hd; clear hd; refine hq.mono ?_; rintro e w3b ⟨v2, rfl, hd⟩; clear hq; obtain ⟨q0, q1, q2, q3, q4⟩ := HB.out _ hd.fr) | (have hq := S1.out.bnew _ _ hp; clear hp; refine hq.mono ?_; rintro e w3 ⟨v, rfl, hd⟩; clear hq; obtain ⟨q0, q1, q2, q3, q4⟩ := HB.out _ hd.fr))
    | (go_at_call 25; first | (have hq := S2.out.w2 _ _ _ hd; clear hd q0 q1 q2 q3 q4; refine hq.mono ?_; rintro e w6 ⟨rfl, hd⟩; clear hq; obtain ⟨q0, q1, q2, q3, q4⟩ := HB.out _ hd.fr) | (have hq := S1.out.w1 _ _ _ hd; clear hd q0 q1 q2 q3 q4; refine hq.mono ?_; rintro e w4 ⟨rfl, hd⟩; clear hq; obtain ⟨q0, q1, q2, q3, q4⟩ := HB.out _ hd.fr))
    | (go_at_call 26; have hq := S2.out.bar _ _ _ hd; clear hd q0 q1 q2 q3 q4; refine hq.mono ?_; rintro e w5 ⟨rfl, hd⟩; clear hq; obtain ⟨q0, q1, q2, q3, q4⟩ := HB.out _ hd.fr)
    | (go_at_call 24; first | (have hq := S3.out.rd _ _ _ hd; clear hd q0 q1 q2 q3 q4; refine hq.mono ?_; rintro e w7 ⟨rfl, hd⟩; clear hq; obtain ⟨q0, q1, q2, q3, q4⟩ := HB.out _ hd.fr) | (have hq := S3.out.rd2 _ _ _ hd; clear hd q0 q1 q2 q3 q4; refine hq.mono ?_; rintro e w12 ⟨b9, rfl, hd⟩; clear hq; obtain ⟨q0, q1, q2, q3, q4⟩ := HB.out _ hd.fr))
    | (go_at_call 32; have hq := S3.out.cr _ _ _ _ _ _ (hd.to ((Fr.refl [] _).alloc _)) (zs1 _ c); clear hd q0 q1 q2 q3 q4; refine hq.mono ?_; rintro e w8 ⟨rfl, hd⟩; clear hq)
    | (go_at_call 33; have hq := S3.out.rev _ _ _ hd; clear hd; refine hq.mono ?_; rintro e w9 ⟨rfl, hd⟩; clear hq)
    | (go_at_call 34; have hq := S3.out.st _ _ _ hd; clear hd q0 q1 q2 q3 q4; refine hq.mono ?_; rintro e w11 ⟨rfl, hd⟩; clear hq; obtain ⟨q0, q1, q2, q3, q4⟩ := HB.out _ hd.fr)
    | (go_at_call 19; refine (S1.out.fx _ _ _ _ _ hd).mono ?_; rintro e w13 ⟨rfl, hfe⟩))
  go_ret
  exact ⟨rfl, Hf0.out.trans hfe⟩
theorem stamps_walk (w : World) (A B : ByteArray) (o n c : Int) (hA : A.size ≤ maxLen) (hB : B.size ≤ maxLen) :
    Calls Try.prog 7 #[.agg #[.string A, .string B, .int .i64 o, .int .i64 n, .int .i64 c]] w fun e w' => e = .returned (.bool true) ∧ Fr [] w w' := by
  have S1 := st1 (w.alloc (.cells #[.string A, .string B, .int .i64 o, .int .i64 n, .int .i64 c] 53)) A o hA
  by_cases hon : o = n
  · exact stamps_same w _ _ _ sD sD sD sD sB sB A B A o n c _ 0 (.bool true) (.bool true) S1 hon
  by_cases hE1 : bytesE A o = 0
  · have S2 := st2 (w.alloc (.cells #[.string A, .string B, .int .i64 o, .int .i64 n, .int .i64 c] 53)) A B o n hB hE1
    by_cases hE2 : bytesE B n = 0
    · have S3 := st3 (w.alloc (.cells #[.string A, .string B, .int .i64 o, .int .i64 n, .int .i64 c] 53)) A B o n c hE1 hE2
      rw [stampV_mix] at S3
      obtain ⟨h1, h2⟩ := stampedE_bytes hE2
      obtain ⟨h3, h4⟩ := stampedE_bytes hE1
      have z1 := bytesV_ok hE2
      have z2 := bytesV_ok hE1
      by_cases hSE : stampedE (mix (clamp c) (bytesV B n) (bytesV A o)) = false
      · rw [if_pos hSE] at S3
        have hc : c < 128 := Classical.byContradiction fun h => by
          rw [mix_all z1 _ (by unfold clamp; omega), h1] at hSE
          cases hSE
        obtain ⟨u, k, f, hR⟩ := parseR_form2 (mix (clamp c) (bytesV B n) (bytesV A o))
        exact stamps_a w _ _ _ _ _ _ _ sB _ A B _ o n c _ _ _ _ S1 hon hE1 hE2 S2 S3 u k f rfl hR hc
      · rw [if_neg hSE] at S3
        by_cases hm : (stampOf (mix (clamp c) (bytesV B n) (bytesV A o)) : Int) = n
        · have hmix : mix (clamp c) (bytesV B n) (bytesV A o) = bytesV B n := mix_new z1 z2 (fun e => hon (by omega)) (by omega)
          rw [hmix, parseR_bytes hE2, h2] at S3
          by_cases hc : c < 128
          · exact stamps_b w _ _ _ _ _ _ _ sB _ A B _ o n c _ _ _ _ S1 hon hE1 hE2 S2 S3 rfl rfl hc
          · exact stamps_b2 w _ _ _ _ _ _ _ sB _ A B _ o n c _ _ _ _ S1 hon hE1 hE2 S2 S3 rfl rfl hc
        · have hc : c < 128 := Classical.byContradiction fun h => by
            rw [mix_all z1 _ (by unfold clamp; omega), h2] at hm
            exact hm rfl
          obtain ⟨u, k, f, hR⟩ := parseR_form2 (mix (clamp c) (bytesV B n) (bytesV A o))
          exact stamps_c w _ _ _ _ _ _ _ sB _ A B _ o n c _ _ _ _ S1 hon hE1 hE2 S2 S3 u _ k f hm rfl hR hc
    · exact stamps_no2 w _ _ _ _ _ sD sD sB sB A B A o n c _ _ (.bool true) (.bool true) S1 hon hE1 hE2 S2
  · exact stamps_no1 w _ _ _ sD sD sD sD sB sB A B A o n c _ 0 (.bool true) (.bool true) S1 hon hE1
end Go.Proofs.Ythmnloapjdalpaa

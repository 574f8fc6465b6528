/- The calls whose answers the document fixes. -/
import Derived.Test.YtdkihajajdhpnaaX0
namespace Go.Proofs.Ytdkihajajdhpnaa
open Go.RowKit
set_option linter.unusedVariables false
set_option linter.unusedSimpArgs false
abbrev tabC : Array Value := #[.int .i64 1, .int .i64 3, .int .i64 (-1), .int .i64 0, .int .i64 0, .int .i64 5]
theorem new2 (w : World) : Calls Try.prog 10 #[.int .i64 2] w fun e w' => e = .returned (.tuple #[ptr (w.heap.size + 1), .int .i64 0]) ∧ MemAt w' (w.heap.size + 1) w.heap.size st0 ∧ Fr [] w w' := New_ok 2 w (by omega) (by omega)
theorem wrT (p F : Nat) (st st' : St) (a e : Int) (s : ByteArray) (he : wrE st tab0 a s = e) (hs : wrS st tab0 a s = st') (w : World) (h : MemAt w p F st) (ha : a ≤ 9223372036854775807) :
    Calls Try.prog 14 #[ptr p, .slice (some ⟨w.heap.size, 0, none⟩) 3 3, .int .i64 a, .string s] (w.alloc (.cells tabC 31)) fun x w' => x = .returned (.int .i64 e) ∧ MemAt w' p F st' ∧ Fr [F] w w' :=
  (Write_any w.heap.size p F 3 3 st _ tab0 a s _ (tab0_at w) (h.to ((Fr.refl [] w).alloc _) (by simp) (by simp)) ha (by simp)).mono fun x w' ⟨h1, h2, h3⟩ => ⟨by rw [h1, he], by rw [← hs]; exact h2, (((Fr.refl [F] w).alloc _)).trans h3⟩
theorem stT (p F : Nat) (st st' : St) (a k n e : Int) (he : stE st tab0 a k n = e) (hs : stS st tab0 a k n = st') (w : World) (h : MemAt w p F st) (ha : a ≤ 9223372036854775807) :
    Calls Try.prog 29 #[ptr p, .slice (some ⟨w.heap.size, 0, none⟩) 3 3, .int .i64 a, .int .i64 k, .int .i64 n] (w.alloc (.cells tabC 31)) fun x w' => x = .returned (.int .i64 e) ∧ MemAt w' p F st' ∧ Fr [F] w w' :=
  (Store_any w.heap.size p F 3 3 st _ tab0 a k n _ (tab0_at w) (h.to ((Fr.refl [] w).alloc _) (by simp) (by simp)) ha (by simp)).mono fun x w' ⟨h1, h2, h3⟩ => ⟨by rw [h1, he], by rw [← hs]; exact h2, (((Fr.refl [F] w).alloc _)).trans h3⟩
theorem rdT (p F : Nat) (st : St) (a n r e : Int) (l : List UInt8) (he : rdR st tab0 a n r = (l, e)) (w : World) (h : MemAt w p F st) (ha : a ≤ 9223372036854775807) :
    Calls Try.prog 18 #[ptr p, .slice (some ⟨w.heap.size, 0, none⟩) 3 3, .int .i64 a, .int .i64 n, .int .i64 r] (w.alloc (.cells tabC 31)) fun x w' => x = .returned (.tuple #[.string ⟨l.toArray⟩, .int .i64 e]) ∧ Fr [] w w' :=
  (Read_any w.heap.size p F 3 3 st _ tab0 a n r _ (tab0_at w) (h.to ((Fr.refl [] w).alloc _) (by simp) (by simp)) ha (by simp)).mono fun x w' ⟨h1, h3⟩ => ⟨by rw [h1, he], (((Fr.refl [] w).alloc _)).trans h3⟩
theorem ldT (p F : Nat) (st : St) (a k r v e : Int) (he : ldR st tab0 a k r = (v, e)) (w : World) (h : MemAt w p F st) (ha : a ≤ 9223372036854775807) :
    Calls Try.prog 16 #[ptr p, .slice (some ⟨w.heap.size, 0, none⟩) 3 3, .int .i64 a, .int .i64 k, .int .i64 r] (w.alloc (.cells tabC 31)) fun x w' => x = .returned (.tuple #[.int .i64 v, .int .i64 e]) ∧ Fr [] w w' :=
  (Load_any w.heap.size p F 3 3 st _ tab0 a k r _ (tab0_at w) (h.to ((Fr.refl [] w).alloc _) (by simp) (by simp)) ha (by simp)).mono fun x w' ⟨h1, h3⟩ => ⟨by rw [h1, he], (((Fr.refl [] w).alloc _)).trans h3⟩
theorem chkT (p F : Nat) (st : St) (e : Int) (he : chT st.n [⟨2, 0⟩] = e) (w : World) (h : MemAt w p F st) :
    Calls Try.prog 23 #[ptr p, .slice (some ⟨w.heap.size, 0, none⟩) 1 1] (w.alloc (.cells #[.int .i64 2, .int .i64 0] 31)) fun x w' => x = .returned (.int .i64 e) ∧ Fr [] w w' :=
  (Check_any w.heap.size p F st.n 1 1 _ [⟨2, 0⟩] _ (by
    have hb := Blk.new w 31 #[.int .i64 2, .int .i64 0]
    refine ⟨by simp [maxLen], _, 1, rfl, fun i p hi => ⟨0, rfl, hb.lt, ?_⟩⟩
    match i, hi with
    | 0, hi => simp at hi; subst hi; exact ⟨hb.cell 0, hb.cell 1⟩
    | i + 1, hi => simp at hi) (h.hd.fr ((Fr.refl [] w).alloc _) (by simp))).mono fun x w' ⟨h1, h3⟩ => ⟨by rw [h1, he], (((Fr.refl [] w).alloc _)).trans h3⟩
theorem layT (p F : Nat) (st : St) (f a e : Int) (s : ByteArray) (he : layE st.n f a s = e) (h0 : e ≠ 0) (w : World) (h : MemAt w p F st) (hs : s.size ≤ 1152921504606846976) :
    Calls Try.prog 12 #[ptr p, .int .i64 f, .int .i64 a, .string s] w fun x w' => x = .returned (.int .i64 e) ∧ MemAt w' p F st ∧ Fr [F] w w' :=
  (Lay_any p F st w f a s h hs).mono fun x w' ⟨h1, h2, h3⟩ => ⟨by rw [h1, he], by rw [he, if_neg h0] at h2; exact h2, h3⟩
theorem clT (p F : Nat) (st : St) (f e : Int) (he : clE st.n f = e) (w : World) (h : MemAt w p F st) :
    Calls Try.prog 22 #[ptr p, .int .i64 f] w fun x w' => x = .returned (.int .i64 e) ∧ Fr [F] w w' :=
  (Clear_any p F st w f h).mono fun x w' ⟨h1, h2, h3⟩ => ⟨by rw [h1, he], h3⟩
set_option maxRecDepth 100000 in
set_option maxHeartbeats 2000000 in
theorem fixed_any (w : World) : Calls Try.prog 11 #[] w fun e w' => e = .returned (.bool true) ∧ Fr [] w w' := by
  go_enter Try.func11, Try.ntmps11
  go_wp2_with fail
  refine (new2 w).mono ?_
  rintro e w1 ⟨rfl, hm1, hf1⟩
  have HF1 := Lib.hid hf1
  have z1 := hf1.size
  have HM1 := Lib.hid hm1
  clear hf1 hm1
  obtain ⟨p, hp⟩ : ∃ p, w.heap.size + 1 = p := ⟨_, rfl⟩
  obtain ⟨F, hF⟩ : ∃ F, w.heap.size = F := ⟨_, rfl⟩
  rw [hp, hF] at HM1
  rw [hp]
  have HP := Lib.hid (And.intro hp hF)
  clear hp hF
  go_wp2_with fail
  refine (New_bad 0 w1 (by omega)).mono ?_
  rintro e w2 ⟨rfl, rfl⟩
  go_wp2_with fail
  refine (table_any w1).mono ?_
  rintro e w2 ⟨rfl, rfl⟩
  go_wp2_with fail
  refine (wrT p F st0 st1 250 0 s6 f1 rfl w1 HM1.out (by omega)).mono ?_
  rintro e w2 ⟨rfl, hm2, hf2⟩
  have HF2 := Lib.hid hf2
  have HM2 := Lib.hid hm2
  clear hf2 hm2
  go_wp2_with fail
  refine (table_any w2).mono ?_
  rintro e w3 ⟨rfl, rfl⟩
  go_wp2_with fail
  refine (wrT p F st1 st1 250 81 s7 f2 f12 w2 HM2.out (by omega)).mono ?_
  rintro e w3 ⟨rfl, hm3, hf3⟩
  have HF3 := Lib.hid hf3
  have HM3 := Lib.hid hm3
  clear hf3 hm3
  go_wp2_with fail
  refine (table_any w3).mono ?_
  rintro e w4 ⟨rfl, rfl⟩
  go_wp2_with fail
  refine (wrT p F st1 st1 512 82 s1x f3 f13 w3 HM3.out (by omega)).mono ?_
  rintro e w4 ⟨rfl, hm4, hf4⟩
  have HF4 := Lib.hid hf4
  have HM4 := Lib.hid hm4
  clear hf4 hm4
  go_wp2_with fail
  refine (table_any w4).mono ?_
  rintro e w5 ⟨rfl, rfl⟩
  go_wp2_with fail
  refine (stT p F st1 st2 0 4 (-2) 0 f4 rfl w4 HM4.out (by omega)).mono ?_
  rintro e w5 ⟨rfl, hm5, hf5⟩
  have HF5 := Lib.hid hf5
  have HM5 := Lib.hid hm5
  clear hf5 hm5
  go_wp2_with fail
  refine (layT p F st2 2 0 83 ⟨#[]⟩ f5 (by omega) w5 HM5.out (by show (0 : Nat) ≤ _; omega)).mono ?_
  rintro e w6 ⟨rfl, hm6, hf6⟩
  have HF6 := Lib.hid hf6
  have HM6 := Lib.hid hm6
  clear hf6 hm6
  go_wp2_with fail
  refine (chkT p F st2 84 f6 w6 HM6.out).mono ?_
  rintro e w7 ⟨rfl, hf7⟩
  have HF7 := Lib.hid hf7
  have HM7 := Lib.hid (HM6.out.to hf7 (by simp) (by simp))
  clear hf7
  go_wp2_with fail
  refine (table_any w7).mono ?_
  rintro e w8 ⟨rfl, rfl⟩
  go_wp2_with fail
  refine (rdT p F st2 250 6 1 0 _ f7 w7 HM7.out (by omega)).mono ?_
  rintro e w8 ⟨rfl, hf8⟩
  have HF8 := Lib.hid hf8
  have HM8 := Lib.hid (HM7.out.to hf8 (by simp) (by simp))
  clear hf8
  go_wp2_with fail
  refine (table_any w8).mono ?_
  rintro e w9 ⟨rfl, rfl⟩
  go_wp2_with fail
  refine (ldT p F st2 0 4 1 4294967294 0 f8 w8 HM8.out (by omega)).mono ?_
  rintro e w9 ⟨rfl, hf9⟩
  have HF9 := Lib.hid hf9
  have HM9 := Lib.hid (HM8.out.to hf9 (by simp) (by simp))
  clear hf9
  go_wp2_with fail
  refine (Frame_ok p F st2 w9 1 HM9.out (by rw [f10]; omega)).mono ?_
  rintro e w10 ⟨rfl, rfl⟩
  have hsz := frS_size st2 1
  have hex := f11'
  generalize frS st2 1 = FS at *
  go_wp2_with fail
  refine (Frames_any p F st2 w9 HM9.out).mono ?_
  rintro e w10 ⟨rfl, rfl⟩
  rw [f10]
  go_wp2_with fail
  refine (clT p F st2 1 0 f9 w9 HM9.out).mono ?_
  rintro e w10 ⟨rfl, hf10⟩
  go_wp2_with fail
  go_ret
  refine ⟨rfl, ?_⟩
  obtain ⟨hp, hF⟩ := HP.out
  have hm : ∀ {a b : World}, Fr [] a b → Fr [F] a b := fun h => h.mono (by simp)
  have hall : Fr [F] w w10 := (((((((((hm HF1.out).trans HF2.out).trans HF3.out).trans HF4.out).trans HF5.out).trans HF6.out).trans (hm HF7.out)).trans (hm HF8.out)).trans (hm HF9.out)).trans hf10
  exact hall.mono (fun k hk hlt => by simp at hk; omega)
end Go.Proofs.Ytdkihajajdhpnaa

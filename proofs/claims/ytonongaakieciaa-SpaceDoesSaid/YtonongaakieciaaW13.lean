/- The program's Store. -/
import Derived.Test.YtonongaakieciaaW12
namespace Go.Proofs.Ytonongaakieciaa
open Go.RowKit
set_option linter.unusedVariables false
set_option maxRecDepth 100000
set_option linter.unusedSimpArgs false
/-- The byte of a number that stands behind d. -/
def byt (n d : Int) : UInt8 := UInt8.ofNat ((n / d) % 256).toNat
theorem byt_val (n d : Int) : ((byt n d).toNat : Int) = (n / d) % 256 := by
  unfold byt
  have h1 : 0 ≤ (n / d) % 256 := Int.emod_nonneg _ (by omega)
  have h2 : (n / d) % 256 < 256 := Int.emod_lt_of_pos _ (by omega)
  rw [UInt8.toNat_ofNat', Nat.mod_eq_of_lt (by omega)]
  omega
/-- The bytes of a word of a width, the highest first. -/
def wordB (n k : Int) : List UInt8 := if k = 1 then [byt n 1] else if k = 2 then [byt n 256, byt n 1] else [byt n 16777216, byt n 65536, byt n 256, byt n 1]
def wordS (n k : Int) : ByteArray := ⟨(wordB n k).toArray⟩
def stE (st : St) (t : List Pg) (a k n : Int) : Int := if okT st.n t = false then 84 else if k ≠ 1 ∧ k ≠ 2 ∧ k ≠ 4 then 80 else wrE st t a (wordS n k)
def stS (st : St) (t : List Pg) (a k n : Int) : St := if okT st.n t = false then st else if k ≠ 1 ∧ k ≠ 2 ∧ k ≠ 4 then st else wrS st t a (wordS n k)
set_option maxRecDepth 100000 in
set_option maxHeartbeats 1000000 in
theorem Store_no (b p F m cap : Nat) (st : St) (A : Option Addr) (t : List Pg) (a k n : Int) (w : World) (ht : Tb w b (.slice A m cap) t) (h : MemAt w p F st) (hT : okT st.n t = false) :
    Calls Try.prog 78 #[ptr p, .slice A m cap, .int .i64 a, .int .i64 k, .int .i64 n] w fun e w' => e = .returned (.int .i64 84) ∧ Fr [] w w' := by
  have Hc := Lib.hid (Check_no b p F st.n m cap A t w ht h.hd hT)
  clear h ht hT
  go_enter Try.func78, Try.ntmps78
  go_wp2_with (go_at_call 47; go_must ((with_reducible refine Hc.out.mono ?_); rintro e w1 ⟨rfl, hf1⟩))
  go_ret
  exact ⟨rfl, hf1⟩
set_option maxRecDepth 100000 in
set_option maxHeartbeats 1000000 in
theorem Store_size (b p F m cap : Nat) (st : St) (A : Option Addr) (t : List Pg) (a k n : Int) (w : World) (ht : Tb w b (.slice A m cap) t) (h : MemAt w p F st) (hT : okT st.n t = true) (hk : k ≠ 1 ∧ k ≠ 2 ∧ k ≠ 4) :
    Calls Try.prog 78 #[ptr p, .slice A m cap, .int .i64 a, .int .i64 k, .int .i64 n] w fun e w' => e = .returned (.int .i64 80) ∧ Fr [] w w' := by
  have Hc := Lib.hid (Check_ok b p F st.n m cap A t w ht h.hd hT)
  have d1 : (k != 1) = true := by rw [bne_iff_ne]; exact hk.1
  have d2 : (k != 2) = true := by rw [bne_iff_ne]; exact hk.2.1
  have d3 : (k != 4) = true := by rw [bne_iff_ne]; exact hk.2.2
  clear h ht hT hk
  go_enter Try.func78, Try.ntmps78
  go_wp2_with (go_at_call 47; go_must ((with_reducible refine Hc.out.mono ?_); rintro e w1 ⟨rfl, hf1⟩))
  go_ret
  exact ⟨rfl, hf1⟩
abbrev w4c (n : Int) : Array Value := #[.int .u8 (n / 16777216 % 256), .int .u8 (n / 65536 % 256), .int .u8 (n / 256 % 256), .int .u8 (n % 256)]
theorem byt1 (n : Int) : ((byt n 1).toNat : Int) = n % 256 := by rw [byt_val, Int.ediv_one]
theorem conv_word (n : Int) (o k : Nat) (hk : (o = 3 ∧ k = 1) ∨ (o = 2 ∧ k = 2) ∨ (o = 0 ∧ k = 4)) (w1 : World) : (convert 118 9 (.slice (some ⟨w1.heap.size, o, none⟩) k k)).run Try.prog (w1.alloc (.cells (w4c n) 163)) = .ok (.string (wordS n k)) (w1.alloc (.cells (w4c n) 163)) := by
  have hb := Blk.new w1 163 (w4c n)
  rcases hk with ⟨rfl, rfl⟩ | ⟨rfl, rfl⟩ | ⟨rfl, rfl⟩
  · refine conv_list [byt n 1] rfl (fun j c hj => ?_)
    match j, hj with
    | 0, hj => simp at hj; subst hj; rw [hb.cell, byt1]; rfl
  · refine conv_list [byt n 256, byt n 1] rfl (fun j c hj => ?_)
    match j, hj with
    | 0, hj => simp at hj; subst hj; rw [hb.cell, byt_val]; rfl
    | 1, hj => simp at hj; subst hj; rw [hb.cell, byt1]; rfl
  · refine conv_list [byt n 16777216, byt n 65536, byt n 256, byt n 1] rfl (fun j c hj => ?_)
    match j, hj with
    | 0, hj => simp at hj; subst hj; rw [hb.cell, byt_val]; rfl
    | 1, hj => simp at hj; subst hj; rw [hb.cell, byt_val]; rfl
    | 2, hj => simp at hj; subst hj; rw [hb.cell, byt_val]; rfl
    | 3, hj => simp at hj; subst hj; rw [hb.cell, byt1]; rfl
set_option maxRecDepth 100000 in
set_option maxHeartbeats 1000000 in
theorem Store_1 (b p F m cap : Nat) (st : St) (A : Option Addr) (t : List Pg) (a n : Int) (w : World) (ht : Tb w b (.slice A m cap) t) (h : MemAt w p F st) (hT : okT st.n t = true) (ha : a ≤ 9223372036854775807) (hbw : b < w.heap.size) :
    Calls Try.prog 78 #[ptr p, .slice A m cap, .int .i64 a, .int .i64 1, .int .i64 n] w (WriteP w p F st t a (wordS n 1)) := by
  have Hc := Lib.hid (Check_ok b p F st.n m cap A t w ht h.hd hT)
  have Hw := Lib.hid fun W (hf : Fr [] w W) => Write_any b p F m cap st A t a (wordS n 1) W (ht.fr hf (by simp)) (h.to hf (by simp) (by simp)) ha (by have := hf.size; omega)
  have hcv := conv_word n 3 1 (by simp)
  clear h ht hT
  go_enter Try.func78, Try.ntmps78
  go_wp2_with (first
    | (go_at_call 47; go_must ((with_reducible refine Hc.out.mono ?_); rintro e w1 ⟨rfl, hf1⟩))
    | (go_at_call 61; go_must ((refine (Hw.out _ (hf1.alloc _)).mono ?_); rintro e w2 ⟨rfl, hm2, hf2⟩))
    | fail)
  go_ret
  exact ⟨rfl, hm2, ((hf1.alloc _).mono (by simp)).trans hf2⟩
set_option maxRecDepth 100000 in
set_option maxHeartbeats 1000000 in
theorem Store_2 (b p F m cap : Nat) (st : St) (A : Option Addr) (t : List Pg) (a n : Int) (w : World) (ht : Tb w b (.slice A m cap) t) (h : MemAt w p F st) (hT : okT st.n t = true) (ha : a ≤ 9223372036854775807) (hbw : b < w.heap.size) :
    Calls Try.prog 78 #[ptr p, .slice A m cap, .int .i64 a, .int .i64 2, .int .i64 n] w (WriteP w p F st t a (wordS n 2)) := by
  have Hc := Lib.hid (Check_ok b p F st.n m cap A t w ht h.hd hT)
  have Hw := Lib.hid fun W (hf : Fr [] w W) => Write_any b p F m cap st A t a (wordS n 2) W (ht.fr hf (by simp)) (h.to hf (by simp) (by simp)) ha (by have := hf.size; omega)
  have hcv := conv_word n 2 2 (by simp)
  clear h ht hT
  go_enter Try.func78, Try.ntmps78
  go_wp2_with (first
    | (go_at_call 47; go_must ((with_reducible refine Hc.out.mono ?_); rintro e w1 ⟨rfl, hf1⟩))
    | (go_at_call 61; go_must ((refine (Hw.out _ (hf1.alloc _)).mono ?_); rintro e w2 ⟨rfl, hm2, hf2⟩))
    | fail)
  go_ret
  exact ⟨rfl, hm2, ((hf1.alloc _).mono (by simp)).trans hf2⟩
set_option maxRecDepth 100000 in
set_option maxHeartbeats 1000000 in
theorem Store_4 (b p F m cap : Nat) (st : St) (A : Option Addr) (t : List Pg) (a n : Int) (w : World) (ht : Tb w b (.slice A m cap) t) (h : MemAt w p F st) (hT : okT st.n t = true) (ha : a ≤ 9223372036854775807) (hbw : b < w.heap.size) :
    Calls Try.prog 78 #[ptr p, .slice A m cap, .int .i64 a, .int .i64 4, .int .i64 n] w (WriteP w p F st t a (wordS n 4)) := by
  have Hc := Lib.hid (Check_ok b p F st.n m cap A t w ht h.hd hT)
  have Hw := Lib.hid fun W (hf : Fr [] w W) => Write_any b p F m cap st A t a (wordS n 4) W (ht.fr hf (by simp)) (h.to hf (by simp) (by simp)) ha (by have := hf.size; omega)
  have hcv := conv_word n 0 4 (by simp)
  clear h ht hT
  go_enter Try.func78, Try.ntmps78
  go_wp2_with (first
    | (go_at_call 47; go_must ((with_reducible refine Hc.out.mono ?_); rintro e w1 ⟨rfl, hf1⟩))
    | (go_at_call 61; go_must ((refine (Hw.out _ (hf1.alloc _)).mono ?_); rintro e w2 ⟨rfl, hm2, hf2⟩))
    | fail)
  go_ret
  exact ⟨rfl, hm2, ((hf1.alloc _).mono (by simp)).trans hf2⟩
def StoreP (w : World) (p F : Nat) (st : St) (t : List Pg) (a k n : Int) (e : Ending) (w' : World) : Prop :=
  e = .returned (.int .i64 (stE st t a k n)) ∧ MemAt w' p F (stS st t a k n) ∧ Fr [F] w w'
theorem Store_any (b p F m cap : Nat) (st : St) (A : Option Addr) (t : List Pg) (a k n : Int) (w : World) (ht : Tb w b (.slice A m cap) t) (h : MemAt w p F st) (ha : a ≤ 9223372036854775807) (hbw : b < w.heap.size) :
    Calls Try.prog 78 #[ptr p, .slice A m cap, .int .i64 a, .int .i64 k, .int .i64 n] w (StoreP w p F st t a k n) := by
  cases hT : okT st.n t with
  | false =>
    refine (Store_no b p F m cap st A t a k n w ht h hT).mono fun e w' ⟨he, hf⟩ => ?_
    refine ⟨by rw [he]; unfold stE; rw [if_pos hT], ?_, hf.mono (by simp)⟩
    unfold stS
    rw [if_pos hT]
    exact h.to hf (by simp) (by simp)
  | true =>
    have hT' : ¬ okT st.n t = false := by rw [hT]; simp
    by_cases hk : k ≠ 1 ∧ k ≠ 2 ∧ k ≠ 4
    · refine (Store_size b p F m cap st A t a k n w ht h hT hk).mono fun e w' ⟨he, hf⟩ => ?_
      refine ⟨by rw [he]; unfold stE; rw [if_neg hT', if_pos hk], ?_, hf.mono (by simp)⟩
      unfold stS
      rw [if_neg hT', if_pos hk]
      exact h.to hf (by simp) (by simp)
    · have key : Calls Try.prog 78 #[ptr p, .slice A m cap, .int .i64 a, .int .i64 k, .int .i64 n] w (WriteP w p F st t a (wordS n k)) := by
        rcases (by omega : k = 1 ∨ k = 2 ∨ k = 4) with rfl | rfl | rfl
        · exact Store_1 b p F m cap st A t a n w ht h hT ha hbw
        · exact Store_2 b p F m cap st A t a n w ht h hT ha hbw
        · exact Store_4 b p F m cap st A t a n w ht h hT ha hbw
      refine key.mono fun e w' ⟨he, hm, hf⟩ => ⟨?_, ?_, hf⟩
      · rw [he]; unfold stE; rw [if_neg hT', if_neg hk]
      · unfold stS
        rw [if_neg hT', if_neg hk]
        exact hm
end Go.Proofs.Ytonongaakieciaa

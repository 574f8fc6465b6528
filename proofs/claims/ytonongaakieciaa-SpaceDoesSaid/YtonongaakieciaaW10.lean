/- The program's Read, of any arguments; Write, refused. -/
import Derived.Test.YtonongaakieciaaW9
namespace Go.Proofs.Ytonongaakieciaa
open Go.RowKit Go.Shelf
set_option linter.unusedVariables false
set_option maxRecDepth 100000
set_option linter.unusedSimpArgs false
/-- What Read tells. -/
def rdR (st : St) (t : List Pg) (a n r : Int) : List UInt8 × Int :=
  if okT st.n t = false then ([], 84) else if n < 0 ∨ 4096 < n ∨ (r ≠ 1 ∧ r ≠ 4) then ([], 80) else
    (if thr t r a n.toNat = 0 then (List.range n.toNat).map fun (i : Nat) => st.b (loc t (a + (i : Int))) else [], thr t r a n.toNat)
def ReadP (w : World) (st : St) (t : List Pg) (a n r : Int) (e : Ending) (w' : World) : Prop :=
  e = .returned (.tuple #[.string ⟨(rdR st t a n r).1.toArray⟩, .int .i64 (rdR st t a n r).2]) ∧ Fr [] w w'
theorem Read_any (b p F m cap : Nat) (st : St) (A : Option Addr) (t : List Pg) (a n r : Int) (w : World) (ht : Tb w b (.slice A m cap) t) (h : MemAt w p F st) (ha : a ≤ 9223372036854775807) (hbw : b < w.heap.size) :
    Calls Try.prog 62 #[ptr p, .slice A m cap, .int .i64 a, .int .i64 n, .int .i64 r] w (ReadP w st t a n r) := by
  cases hT : okT st.n t with
  | false =>
    refine (Read_no b p F m cap st A t a n r w ht h hT).mono fun e w' ⟨he, hf⟩ => ⟨?_, hf⟩
    have e0 : rdR st t a n r = ([], 84) := by unfold rdR; rw [if_pos hT]
    rw [he, e0]
  | true =>
    by_cases hs : n < 0 ∨ 4096 < n ∨ (r ≠ 1 ∧ r ≠ 4)
    · refine (Read_size b p F m cap st A t a n r w ht h hT hs).mono fun e w' ⟨he, hf⟩ => ⟨?_, hf⟩
      have e0 : rdR st t a n r = ([], 80) := by unfold rdR; rw [if_neg (by rw [hT]; simp), if_pos hs]
      rw [he, e0]
    · obtain ⟨k, rfl⟩ := Int.eq_ofNat_of_zero_le (by omega : 0 ≤ n)
      refine (Read_main b p F m cap k st A t a r w ht h hT (by omega) (by omega) ha hbw).mono fun e w' ⟨he, hf⟩ => ⟨?_, hf⟩
      have e0 : rdR st t a k r = (if thr t r a k = 0 then (List.range k).map fun (i : Nat) => st.b (loc t (a + (i : Int))) else [], thr t r a k) := by unfold rdR; rw [if_neg (by rw [hT]; simp), if_neg hs, Int.toNat_natCast]
      rw [he, e0]
set_option maxHeartbeats 400000 in
theorem Write_no (b p F m cap : Nat) (st : St) (A : Option Addr) (t : List Pg) (a : Int) (s : ByteArray) (w : World) (ht : Tb w b (.slice A m cap) t) (h : MemAt w p F st) (hT : okT st.n t = false) :
    Calls Try.prog 61 #[ptr p, .slice A m cap, .int .i64 a, .string s] w fun e w' => e = .returned (.int .i64 84) ∧ Fr [] w w' := by
  have Hc := Lib.hid fun w ht h => Check_no b p F st.n m cap A t w ht h hT
  have H := Lib.hid ht
  have HM := Lib.hid h
  clear h ht hT
  go_enter Try.func61, Try.ntmps61
  go_wp2_with (go_at_call 47; go_must ((with_reducible refine (Hc.out _ (H.out.fr ((Fr.refl [] _).alloc _) (by simp)) (HM.out.hd.fr ((Fr.refl [] _).alloc _) (by simp))).mono ?_); rintro e w1 ⟨rfl, hf1⟩; have hb1 := (Blk.new w 26 #[.int .i64 0]).fr hf1 (by simp); have e0 := hb1.cell 0; have e1 := hb1.frozen; (try simp at e0)))
  refine bodyPost_ret (v := .int .i64 84) (by simp [results, Try.results61, go_sem, e0]) rfl ⟨rfl, ?_⟩
  exact (((Fr.refl _ w).alloc _).trans hf1).setCell (.inr (by simp)) _
set_option maxHeartbeats 400000 in
theorem Write_long (b p F m cap : Nat) (st : St) (A : Option Addr) (t : List Pg) (a : Int) (s : ByteArray) (w : World) (ht : Tb w b (.slice A m cap) t) (h : MemAt w p F st) (hT : okT st.n t = true) (hs : 4096 < s.size) :
    Calls Try.prog 61 #[ptr p, .slice A m cap, .int .i64 a, .string s] w fun e w' => e = .returned (.int .i64 80) ∧ Fr [] w w' := by
  have Hc := Lib.hid fun w ht h => Check_ok b p F st.n m cap A t w ht h hT
  have H := Lib.hid ht
  have HM := Lib.hid h
  have d1 : decide ((4096 : Int) < (s.size : Int)) = true := by rw [decide_eq_true_iff]; omega
  clear h ht hT
  go_enter Try.func61, Try.ntmps61
  go_wp2_with (go_at_call 47; go_must ((with_reducible refine (Hc.out _ (H.out.fr ((Fr.refl [] _).alloc _) (by simp)) (HM.out.hd.fr ((Fr.refl [] _).alloc _) (by simp))).mono ?_); rintro e w1 ⟨rfl, hf1⟩; have hb1 := (Blk.new w 26 #[.int .i64 0]).fr hf1 (by simp); have e0 := hb1.cell 0; have e1 := hb1.frozen; (try simp at e0)))
  refine bodyPost_ret (v := .int .i64 80) (by simp [results, Try.results61, go_sem, e0]) rfl ⟨rfl, ?_⟩
  exact (((Fr.refl _ w).alloc _).trans hf1).setCell (.inr (by simp)) _
end Go.Proofs.Ytonongaakieciaa

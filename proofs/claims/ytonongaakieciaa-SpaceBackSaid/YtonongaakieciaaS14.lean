/- SpaceBack: the walk. -/
import Derived.Test.YtonongaakieciaaS13
namespace Go.Proofs.Ytonongaakieciaa
open Go.RowKit
set_option linter.unusedVariables false
set_option linter.unusedSimpArgs false
set_option maxRecDepth 100000
section
variable (s : ByteArray) (a b : Nat) (ia ib : Int) (ha : ia = a) (hb : ib = b) (wx : World)
include ha
theorem sl_from (h : a ≤ s.size) : (Instr.slice 9 (.string s) (some (.int .i64 ia)) none none).run Try.prog wx = .ok (.string (s.extract a s.size)) wx := by
  subst ha
  rw [run_slice_string_from_if (P := Try.prog) wx 9 s .i64 _ Try.underlying9, if_pos (by omega)]
  simp
theorem sl_to (h : a ≤ s.size) : (Instr.slice 9 (.string s) none (some (.int .i64 ia)) none).run Try.prog wx = .ok (.string (s.extract 0 a)) wx := by
  subst ha
  rw [run_slice_string_to_if (P := Try.prog) wx 9 s .i64 _ Try.underlying9, if_pos (by omega)]
  simp
include hb
theorem sl_mid (h : a ≤ b) (h2 : b ≤ s.size) : (Instr.slice 9 (.string s) (some (.int .i64 ia)) (some (.int .i64 ib)) none).run Try.prog wx = .ok (.string (s.extract a b)) wx := by
  subst ha; subst hb
  rw [run_slice_string (P := Try.prog) wx 9 s .i64 .i64 _ _ Try.underlying9 (by omega) (by omega) (by omega)]
  simp
end
theorem wf_le {x : Int} (h : (Lit.int .i64 x).wf = true) : -9223372036854775808 ≤ x ∧ x ≤ 9223372036854775807 := by
  simp [Lit.wf, IntKind.min, IntKind.max, IntKind.signed, IntKind.bits] at h
  omega
theorem ext_size (s : ByteArray) (a b : Nat) (h : b ≤ s.size) : (s.extract a b).size = b - a := by
  rw [ByteArray.size_extract]; omega
/-- The cells of a call that was laid into a box. -/
def Ob (w : World) (g : Nat) (o2 o3 : Int) (S : ByteArray) : Prop := w.cell? ⟨g, 2, none⟩ = some (.int .i64 o2) ∧ w.cell? ⟨g, 3, none⟩ = some (.int .i64 o3) ∧ w.cell? ⟨g, 5, none⟩ = some (.string S)
theorem Ob.fr {w w' : World} {g : Nat} {o2 o3 : Int} {S : ByteArray} (h : Ob w g o2 o3 S) (hf : Fr [] w w') : Ob w' g o2 o3 S := ⟨hf.cell_some h.1 (by simp), hf.cell_some h.2.1 (by simp), hf.cell_some h.2.2 (by simp)⟩
theorem Ob.new (w : World) (o0 o1 o2 o3 o4 : Int) (S : ByteArray) : Ob (w.alloc (.cells #[.int .i64 o0, .int .i64 o1, .int .i64 o2, .int .i64 o3, .int .i64 o4, .string S] 24)) w.heap.size o2 o3 S := by
  have hb := Blk.new w 24 #[.int .i64 o0, .int .i64 o1, .int .i64 o2, .int .i64 o3, .int .i64 o4, .string S]
  exact ⟨by rw [hb.cell]; rfl, by rw [hb.cell]; rfl, by rw [hb.cell]; rfl⟩
/-- What is asked of fixed, of a table that may not be. -/
theorem back_bad (b m cap : Nat) (A : Option Addr) (t : List Pg) (w : World) (ht : Tb w b (.slice A m cap) t) (pr : ByteArray) (o0 o1 o2 o3 o4 : Int) (S : ByteArray) (hE : ptsE t ≠ 0) :
    Calls Try.prog 3 #[.slice A m cap, .string pr, .agg #[.int .i64 o0, .int .i64 o1, .int .i64 o2, .int .i64 o3, .int .i64 o4, .string S]] w fun e w' => e = .returned (.bool true) ∧ Fr [] w w' := by
  have H0 : Hid (Fr [] w (w.alloc (.cells #[.int .i64 o0, .int .i64 o1, .int .i64 o2, .int .i64 o3, .int .i64 o4, .string S] 24))) := Lib.hid ((Fr.refl [] w).alloc _)
  have HT := Lib.hid (fun W (hf : Fr [] w W) => ht.fr hf (by simp))
  have H13 := Lib.hid (fun W (hf : Fr [] w W) => SNew_bad b m cap A t W (HT.out W hf) hE)
  have H14 := Lib.hid (fun W (hf : Fr [] w W) => (show Calls Try.prog 14 #[.slice A m cap] W fun e w' => e = .returned (.bool false) ∧ W = w' by
    have := Check_pts b m cap A t W (HT.out W hf)
    rwa [decide_eq_false hE] at this))
  have H15 := Lib.hid fixed_any
  generalize hW0 : (w.alloc (.cells #[.int .i64 o0, .int .i64 o1, .int .i64 o2, .int .i64 o3, .int .i64 o4, .string S] 24)) = W0 at *
  clear ht HT hE
  go_enter Try.func3, Try.ntmps3
  go_wp2_with (first
    | (go_at_call 13; refine (H13.out _ H0.out).mono ?_; clear H13; rintro e w1 ⟨rfl, hf⟩; have H1 := Lib.hid (H0.out.trans hf); clear hf)
    | (go_at_call 14; refine (H14.out _ H1.out).mono ?_; clear H14; rintro e w2 ⟨rfl, rfl⟩)
    | (go_at_call 15; refine (H15.out _).mono ?_; clear H15; rintro e w3 ⟨rfl, hf⟩; have H2 := Lib.hid (H1.out.trans hf); clear hf)
    | fail)
  go_ret
  exact ⟨rfl, H2.out⟩
theorem ld_has (x : Sp) (i : Int) (t : ByteArray) (j : Int) : hasP (ldS x i t) j = hasP x j := by
  have : (ldS x i t).tb.length = x.tb.length := by
    unfold ldS
    split
    · rfl
    · simp
  unfold hasP
  rw [this]
theorem out_has (x : Sp) (i a : Int) (t : ByteArray) (j : Int) : hasP (outS x i a t) j = hasP x j := by
  have : (outS x i a t).tb = x.tb := by
    unfold outS
    split <;> rfl
  unfold hasP
  rw [this]
theorem new_has {t : List Pg} {f : Nat} (h : f < t.length) : hasP (spNew t) (f : Int) = true := by
  unfold hasP spNew
  simp
  omega
theorem back_no (b m cap : Nat) (A : Option Addr) (t : List Pg) (w : World) (ht : Tb w b (.slice A m cap) t) (pr : ByteArray) (o0 o1 o2 o3 o4 : Int) (S : ByteArray) (hE : ptsE t = 0) (h2 : (Lit.int .i64 o2).wf = true) (h3 : (Lit.int .i64 o3).wf = true)
    (hO : outE (ldS (spNew t) (o2 % (m : Int)) pr) (o2 % (m : Int)) o3 S ≠ 0) :
    Calls Try.prog 3 #[.slice A m cap, .string pr, .agg #[.int .i64 o0, .int .i64 o1, .int .i64 o2, .int .i64 o3, .int .i64 o4, .string S]] w fun e w' => e = .returned (.bool true) ∧ Fr [] w w' := by
  have H0 : Hid (Fr [] w (w.alloc (.cells #[.int .i64 o0, .int .i64 o1, .int .i64 o2, .int .i64 o3, .int .i64 o4, .string S] 24))) := Lib.hid ((Fr.refl [] w).alloc _)
  have HB := Lib.hid (Ob.new w o0 o1 o2 o3 o4 S)
  have hl := ht.n_eq
  have ⟨h1, h8⟩ : 1 ≤ m ∧ m ≤ 8 := by
    unfold ptsE at hE
    split at hE
    · next h => omega
    · omega
  obtain ⟨f, ef, hf⟩ := place_nat o2 m (by omega)
  have H13 := Lib.hid (Sd.new b m cap A t _ _ (ht.fr ((Fr.refl [] w).alloc (.cells #[.int .i64 o0, .int .i64 o1, .int .i64 o2, .int .i64 o3, .int .i64 o4, .string S] 24)) (by simp)) hE (Fr.refl [] _))
  have H16 := Lib.hid (fun W => (show Calls Try.prog 16 #[.int .i64 o2, .int .i64 (m : Int)] W fun e w' => e = .returned (.int .i64 (f : Int)) ∧ W = w' by
    have := place_any o2 m (by omega) (by omega) (wf_le h2).1 (wf_le h2).2 W
    rwa [ef] at this))
  rw [ef] at hO
  generalize hW0 : (w.alloc (.cells #[.int .i64 o0, .int .i64 o1, .int .i64 o2, .int .i64 o3, .int .i64 o4, .string S] 24)) = W0 at *
  have hp0 : hasP (spNew t) (f : Int) = true := new_has (by omega)
  obtain ⟨X0, eX0⟩ : ∃ X, spNew t = X := ⟨_, rfl⟩
  rw [eX0] at H13 hO hp0
  obtain ⟨X1, eX1⟩ : ∃ X, ldS X0 (f : Int) pr = X := ⟨_, rfl⟩
  have H17 := Lib.hid (fun s p F g W (h : Sd W0 W s p F g X0) => h.load (f : Int) pr)
  have hp1 : hasP X1 (f : Int) = true := by rw [← eX1, ld_has, hp0]
  rw [eX1] at hO H17
  have H18 := Lib.hid (fun s p F g W (h : Sd W0 W s p F g X1) => h.all hp1)
  have H19 := Lib.hid (fun s p F g W (h : Sd W0 W s p F g X1) => h.out (f : Int) o3 S (wf_le h3).2)
  rw [outS_no hO] at H19
  generalize outE X1 (f : Int) o3 S = E at *
  generalize allS X1 (f : Int) = V at *
  generalize ldE X0 (f : Int) pr = E0 at *
  have H15 := Lib.hid fixed_any
  clear ht hE ef hl eX0 eX1 hp0 hp1 h2 h3
  go_enter Try.func3, Try.ntmps3
  go_wp2_with (first
    | (go_at_call 13; refine H13.out.mono ?_; clear H13; rintro e w1 ⟨s, p, F, g, rfl, hd, -⟩; obtain ⟨x2, x3, x5⟩ := HB.out.fr hd.fr)
    | (go_at_call 16; refine (H16.out _).mono ?_; clear H16; rintro e w2 ⟨rfl, rfl⟩; clear x2 x3 x5)
    | (go_at_call 17; refine (H17.out _ _ _ _ _ hd).mono ?_; clear H17 hd; rintro e w2 ⟨rfl, hd⟩)
    | (go_at_call 18; refine (H18.out _ _ _ _ _ hd).mono ?_; clear hd; rintro e w2 ⟨rfl, hd⟩; obtain ⟨x2, x3, x5⟩ := HB.out.fr hd.fr)
    | (go_at_call 19; refine (H19.out _ _ _ _ _ hd).mono ?_; clear hd H19 x2 x3 x5; rintro e w2 ⟨rfl, hd⟩)
    | (go_at_call 15; refine (H15.out _).mono ?_; clear H15; rintro e w3 ⟨rfl, hf⟩; have H2 := Lib.hid (H0.out.trans (hd.fr.trans hf)); clear hf)
    | fail)
  go_ret
  exact ⟨rfl, H2.out⟩
set_option maxHeartbeats 4000000 in
theorem back_yes (b m cap : Nat) (A : Option Addr) (t : List Pg) (w : World) (ht : Tb w b (.slice A m cap) t) (pr : ByteArray) (o0 o1 o2 o3 o4 : Int) (S : ByteArray) (hE : ptsE t = 0) (h2 : (Lit.int .i64 o2).wf = true) (h3 : (Lit.int .i64 o3).wf = true)
    (hO : outE (ldS (spNew t) (o2 % (m : Int)) pr) (o2 % (m : Int)) o3 S = 0) :
    Calls Try.prog 3 #[.slice A m cap, .string pr, .agg #[.int .i64 o0, .int .i64 o1, .int .i64 o2, .int .i64 o3, .int .i64 o4, .string S]] w fun e w' => e = .returned (.bool true) ∧ Fr [] w w' := by
  have H0 : Hid (Fr [] w (w.alloc (.cells #[.int .i64 o0, .int .i64 o1, .int .i64 o2, .int .i64 o3, .int .i64 o4, .string S] 24))) := Lib.hid ((Fr.refl [] w).alloc _)
  have HB := Lib.hid (Ob.new w o0 o1 o2 o3 o4 S)
  have hl := ht.n_eq
  have ⟨h1, h8⟩ : 1 ≤ m ∧ m ≤ 8 := by
    unfold ptsE at hE
    split at hE
    · next h => omega
    · omega
  obtain ⟨f, ef, hf⟩ := place_nat o2 m (by omega)
  have H13 := Lib.hid (Sd.new b m cap A t _ _ (ht.fr ((Fr.refl [] w).alloc (.cells #[.int .i64 o0, .int .i64 o1, .int .i64 o2, .int .i64 o3, .int .i64 o4, .string S] 24)) (by simp)) hE (Fr.refl [] _))
  have H16 := Lib.hid (fun W => (show Calls Try.prog 16 #[.int .i64 o2, .int .i64 (m : Int)] W fun e w' => e = .returned (.int .i64 (f : Int)) ∧ W = w' by
    have := place_any o2 m (by omega) (by omega) (wf_le h2).1 (wf_le h2).2 W
    rwa [ef] at this))
  rw [ef] at hO
  generalize hW0 : (w.alloc (.cells #[.int .i64 o0, .int .i64 o1, .int .i64 o2, .int .i64 o3, .int .i64 o4, .string S] 24)) = W0 at *
  have hp0 : hasP (spNew t) (f : Int) = true := new_has (by omega)
  have hok0 : SpOk (spNew t) := SpOk.new hE
  obtain ⟨X0, eX0⟩ : ∃ X, spNew t = X := ⟨_, rfl⟩
  rw [eX0] at H13 hO hp0 hok0
  obtain ⟨X1, eX1⟩ : ∃ X, ldS X0 (f : Int) pr = X := ⟨_, rfl⟩
  have H17 := Lib.hid (fun s p F g W (h : Sd W0 W s p F g X0) => h.load (f : Int) pr)
  have hp1 : hasP X1 (f : Int) = true := by rw [← eX1, ld_has, hp0]
  have hok1 : SpOk X1 := by rw [← eX1]; exact hok0.ld _ _
  rw [eX1] at hO H17
  have H18 := Lib.hid (fun s p F g W (h : Sd W0 W s p F g X1) => h.all hp1)
  have H19 := Lib.hid (fun s p F g W (h : Sd W0 W s p F g X1) => h.out (f : Int) o3 S (wf_le h3).2)
  obtain ⟨i1, i2⟩ := out_in hok1 hO
  obtain ⟨z1, z2, z3⟩ := out_all hok1 hO
  rw [hO] at H19
  have hp2 : hasP (outS X1 (f : Int) o3 S) (f : Int) = true := by rw [out_has, hp1]
  have hV : (allS X1 (f : Int)).size ≤ 4096 := by
    rw [allS_size]
    obtain ⟨k, u, ek, hk⟩ := hasP_some hp1
    have := okT_len (hok1.ok k u hk)
    rw [ek, (tbOf_some hk).2]
    omega
  obtain ⟨X2, eX2⟩ : ∃ X, outS X1 (f : Int) o3 S = X := ⟨_, rfl⟩
  rw [eX2] at H19 i1 i2 z1 z2 z3 hp2
  have H20 := Lib.hid (fun s p F g W (h : Sd W0 W s p F g X2) => h.in_ (f : Int) o3 (S.size : Int) (wf_le h3).2)
  rw [i1, i2] at H20
  have H18b := Lib.hid (fun s p F g W (h : Sd W0 W s p F g X2) => h.all hp2)
  generalize allS X2 (f : Int) = N at *
  generalize allS X1 (f : Int) = V at *
  generalize ldE X0 (f : Int) pr = E0 at *
  have H15 := Lib.hid fixed_any
  clear ht hE ef hl eX0 eX1 hp0 hp1 h2 h3 hO hok0 hok1 i1 i2 eX2 hp2
  by_cases hS : S.size = 0
  · obtain rfl : N = V := z2 hS
    have hS0 : S = ⟨#[]⟩ := by
      obtain ⟨l⟩ := S
      simpa [ByteArray.size] using hS
    subst hS0
    clear z1 z2 z3 hS
    go_enter Try.func3, Try.ntmps3
    go_wp2_with (first
      | (go_at_call 13; refine H13.out.mono ?_; clear H13; rintro e w1 ⟨s, p, F, g, rfl, hd, -⟩; obtain ⟨x2, x3, x5⟩ := HB.out.fr hd.fr)
      | (go_at_call 16; refine (H16.out _).mono ?_; clear H16; rintro e w2 ⟨rfl, rfl⟩; clear x2 x3 x5)
      | (go_at_call 17; refine (H17.out _ _ _ _ _ hd).mono ?_; clear H17 hd; rintro e w2 ⟨rfl, hd⟩)
      | (go_at_call 18; refine (H18.out _ _ _ _ _ hd).mono ?_; clear hd H18; rintro e w2 ⟨rfl, hd⟩; obtain ⟨x2, x3, x5⟩ := HB.out.fr hd.fr)
      | (go_at_call 19; refine (H19.out _ _ _ _ _ hd).mono ?_; clear hd H19 x2 x3 x5; rintro e w2 ⟨rfl, hd⟩; obtain ⟨x2, x3, x5⟩ := HB.out.fr hd.fr)
      | (go_at_call 20; refine (H20.out _ _ _ _ _ hd).mono ?_; clear hd H20 x2 x3 x5; rintro e w2 ⟨rfl, hd⟩)
      | (go_at_call 18; refine (H18b.out _ _ _ _ _ hd).mono ?_; clear hd H18b; rintro e w2 ⟨rfl, hd⟩; obtain ⟨x2, x3, x5⟩ := HB.out.fr hd.fr)
      | (go_at_call 15; refine (H15.out _).mono ?_; clear H15; rintro e w3 ⟨rfl, hf⟩; have H2 := Lib.hid (H0.out.trans (hd.fr.trans hf)); clear hf)
      | fail)
    go_ret
    exact ⟨rfl, H2.out⟩
  · obtain ⟨A1, eA, hA, p1, p2, p3⟩ := z3 hS
    subst eA
    have hS0 : S.toList.isEmpty = false := tl_em hS
    have hNs : N.size = V.size := z1
    have q0 : (0 : Int) ≤ (A1 : Int) := by omega
    have q1 : IntKind.i64.wrap ((V.size : Int) - (S.size : Int)) = (V.size : Int) - (S.size : Int) := IntWalk.i64_in _ (by omega)
    have q2 : (A1 : Int) ≤ (V.size : Int) - (S.size : Int) := by omega
    have q3 : IntKind.i64.wrap ((A1 : Int) + (S.size : Int)) = (A1 : Int) + (S.size : Int) := IntWalk.i64_in _ (by omega)
    have r1 := fun wx => sl_to N A1 (A1 : Int) rfl wx (by omega)
    have r2 := fun wx => sl_to V A1 (A1 : Int) rfl wx (by omega)
    have r3 := fun wx => sl_from N (A1 + S.size) ((A1 : Int) + (S.size : Int)) (by omega) wx (by omega)
    have r4 := fun wx => sl_from V (A1 + S.size) ((A1 : Int) + (S.size : Int)) (by omega) wx (by omega)
    have r5 := fun wx => sl_mid N A1 (A1 + S.size) (A1 : Int) ((A1 : Int) + (S.size : Int)) rfl (by omega) wx (by omega) (by omega)
    rw [p1] at r1
    rw [hNs, p2] at r3
    rw [p3] at r5
    generalize V.extract 0 A1 = P1 at *
    generalize V.extract (A1 + S.size) V.size = P2 at *
    have hq : ((N.size : Nat) : Int) = ((V.size : Nat) : Int) := by omega
    have HR := Lib.hid (And.intro q0 (And.intro q1 (And.intro q2 (And.intro q3 (And.intro r1 (And.intro r2 (And.intro r3 (And.intro r4 r5))))))))
    clear z1 z2 z3 p1 p2 p3 hA hS q0 q1 q2 q3 r1 r2 r3 r4 r5 hV hNs
    go_enter Try.func3, Try.ntmps3
    go_wp2_with (first
      | (go_at_call 13; refine H13.out.mono ?_; clear H13; rintro e w1 ⟨s, p, F, g, rfl, hd, -⟩; obtain ⟨x2, x3, x5⟩ := HB.out.fr hd.fr)
      | (go_at_call 16; refine (H16.out _).mono ?_; clear H16; rintro e w2 ⟨rfl, rfl⟩; clear x2 x3 x5)
      | (go_at_call 17; refine (H17.out _ _ _ _ _ hd).mono ?_; clear H17 hd; rintro e w2 ⟨rfl, hd⟩)
      | (go_at_call 18; refine (H18.out _ _ _ _ _ hd).mono ?_; clear hd H18; rintro e w2 ⟨rfl, hd⟩; obtain ⟨x2, x3, x5⟩ := HB.out.fr hd.fr)
      | (go_at_call 19; refine (H19.out _ _ _ _ _ hd).mono ?_; clear hd H19 x2 x3 x5; rintro e w2 ⟨rfl, hd⟩; obtain ⟨x2, x3, x5⟩ := HB.out.fr hd.fr)
      | (go_at_call 20; refine (H20.out _ _ _ _ _ hd).mono ?_; clear hd H20 x2 x3 x5; rintro e w2 ⟨rfl, hd⟩)
      | (go_at_call 18; refine (H18b.out _ _ _ _ _ hd).mono ?_; clear hd H18b; rintro e w2 ⟨rfl, hd⟩; obtain ⟨x2, x3, x5⟩ := HB.out.fr hd.fr)
      | fail)
    obtain ⟨q0, q1, q2, q3, r1, r2, r3, r4, r5⟩ := HR.out
    have HK := Lib.hid (fun W' (hf : Fr [] w2.drew W') => And.intro (hf.cell_some (show w2.drew.cell? ⟨w.heap.size, 3, none⟩ = some (.int .i64 (A1 : Int)) from x3) (by simp)) (hf.cell_some (show w2.drew.cell? ⟨w.heap.size, 5, none⟩ = some (.string S) from x5) (by simp)))
    go_region_held3 (fun W => W.cell? ⟨w.heap.size, 3, none⟩ = some (.int .i64 (A1 : Int)) ∧ W.cell? ⟨w.heap.size, 5, none⟩ = some (.string S)) (first | exact ⟨x3, x5⟩ | exact HK.out _ hf) (first
      | (go_at_call 15; refine (H15.out _).mono ?_; rintro e w3 ⟨rfl, hf⟩))
    go_wp2_with fail
    go_ret
    exact ⟨rfl, H0.out.trans (hd.fr.drew.trans hf)⟩
theorem back_walk (b m cap : Nat) (A : Option Addr) (t : List Pg) (w : World) (ht : Tb w b (.slice A m cap) t) (pr : ByteArray) (o0 o1 o2 o3 o4 : Int) (S : ByteArray) (h2 : (Lit.int .i64 o2).wf = true) (h3 : (Lit.int .i64 o3).wf = true) :
    Calls Try.prog 3 #[.slice A m cap, .string pr, .agg #[.int .i64 o0, .int .i64 o1, .int .i64 o2, .int .i64 o3, .int .i64 o4, .string S]] w fun e w' => e = .returned (.bool true) ∧ Fr [] w w' := by
  by_cases hE : ptsE t = 0
  · by_cases hO : outE (ldS (spNew t) (o2 % (m : Int)) pr) (o2 % (m : Int)) o3 S = 0
    · exact back_yes b m cap A t w ht pr o0 o1 o2 o3 o4 S hE h2 h3 hO
    · exact back_no b m cap A t w ht pr o0 o1 o2 o3 o4 S hE h2 h3 hO
  · exact back_bad b m cap A t w ht pr o0 o1 o2 o3 o4 S hE
end Go.Proofs.Ytonongaakieciaa

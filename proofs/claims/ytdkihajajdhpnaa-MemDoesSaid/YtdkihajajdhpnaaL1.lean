/- MemSplits, walked. -/
import Derived.Test.YtdkihajajdhpnaaW15
namespace Go.Proofs.Ytdkihajajdhpnaa
open Go.RowKit
set_option linter.unusedVariables false
set_option linter.unusedSimpArgs false
theorem conv_one (x : Nat) (hx : x < 256) (w1 : World) : (convert 42 9 (.slice (some ⟨w1.heap.size, 0, none⟩) 1 1)).run Try.prog (w1.alloc (.cells #[.int .u8 (x : Int)] 5)) = .ok (.string ⟨#[UInt8.ofNat x]⟩) (w1.alloc (.cells #[.int .u8 (x : Int)] 5)) := by
  have hb := Blk.new w1 5 #[.int .u8 (x : Int)]
  refine conv_list [UInt8.ofNat x] rfl (fun j c hj => ?_)
  match j, hj with
  | 0, hj =>
    simp at hj
    subst hj
    rw [hb.cell]
    have : (UInt8.ofNat x).toNat = x := by rw [UInt8.toNat_ofNat', Nat.mod_eq_of_lt hx]
    rw [this]
    rfl
theorem conv_oneI (x : Int) (h0 : 0 ≤ x) (hx : x < 256) (w1 : World) : (convert 42 9 (.slice (some ⟨w1.heap.size, 0, none⟩) 1 1)).run Try.prog (w1.alloc (.cells #[.int .u8 x] 5)) = .ok (.string ⟨#[UInt8.ofNat x.toNat]⟩) (w1.alloc (.cells #[.int .u8 x] 5)) := by
  obtain ⟨k, rfl⟩ := Int.eq_ofNat_of_zero_le h0
  rw [Int.toNat_natCast]
  exact conv_one k (by omega) w1
theorem thr_add (t : List Pg) (r : Int) : ∀ (n m : Nat) (a : Int), thr t r a (n + m) = if thr t r a n = 0 then thr t r (a + (n : Int)) m else thr t r a n := by
  intro n
  induction n with
  | zero => intro m a; rw [Nat.zero_add, if_pos (show thr t r a 0 = 0 from rfl)]; simp
  | succ n ih =>
    intro m a
    rw [show n + 1 + m = (n + m) + 1 from by omega, thr_succ, thr_succ]
    by_cases h : ch1 t r a = 0
    · rw [if_pos h, if_pos h, ih]
      rw [show a + ((n + 1 : Nat) : Int) = a + 1 + (n : Int) from by omega]
    · rw [if_neg h, if_neg h, if_neg h]
theorem rd_split (st : St) (t : List Pg) (a r : Int) (n m : Nat) (hr : r = 1 ∨ r = 4) (hn : n ≤ 2000) (hm : m ≤ 2000) :
    ((rdR st t a n r).2 ≠ 0 → (rdR st t a ((n : Int) + (m : Int)) r) = ([], (rdR st t a n r).2) ∧ (rdR st t a n r).1 = []) ∧
    ((rdR st t a n r).2 = 0 → (rdR st t (a + (n : Int)) m r).2 ≠ 0 → rdR st t a ((n : Int) + (m : Int)) r = ([], (rdR st t (a + (n : Int)) m r).2) ∧ (rdR st t (a + (n : Int)) m r).1 = []) ∧
    ((rdR st t a n r).2 = 0 → (rdR st t (a + (n : Int)) m r).2 = 0 → rdR st t a ((n : Int) + (m : Int)) r = ((rdR st t a n r).1 ++ (rdR st t (a + (n : Int)) m r).1, 0) ∧ (rdR st t a n r).1.length = n ∧ (rdR st t (a + (n : Int)) m r).1.length = m) := by
  have e0 : ((n : Int) + (m : Int)) = ((n + m : Nat) : Int) := by omega
  rw [e0]
  cases hT : okT st.n t with
  | false =>
    have hx : ∀ a k, rdR st t a k r = ([], 84) := by intro a k; unfold rdR; rw [if_pos hT]
    simp [hx]
  | true =>
    have hx : ∀ (a : Int) (k : Nat), k ≤ 4096 → rdR st t a k r = (if thr t r a k = 0 then (List.range k).map fun (i : Nat) => st.b (loc t (a + (i : Int))) else [], thr t r a k) := by
      intro a k hk
      unfold rdR
      rw [if_neg (by rw [hT]; simp), if_neg (by omega), Int.toNat_natCast]
    rw [hx a n (by omega), hx _ m (by omega), hx a (n + m) (by omega)]
    simp only
    rw [thr_add]
    refine ⟨fun h => ?_, fun h h2 => ?_, fun h h2 => ?_⟩
    · rw [if_neg h, if_neg h, if_neg h]
      exact ⟨rfl, rfl⟩
    · rw [if_pos h, if_neg h2, if_neg h2]
      exact ⟨rfl, rfl⟩
    · rw [if_pos h, if_pos h, h2, if_pos rfl, if_pos rfl]
      refine ⟨?_, by simp, by simp⟩
      congr 1
      rw [List.range_add, List.map_append, List.map_map]
      congr 1
      refine List.map_congr_left (fun i _ => ?_)
      show st.b (loc t (a + ((n + i : Nat) : Int))) = st.b (loc t (a + (n : Int) + (i : Int)))
      rw [show a + ((n + i : Nat) : Int) = a + (n : Int) + (i : Int) from by omega]
theorem str_append (l m : List UInt8) : (⟨(l ++ m).toArray⟩ : ByteArray) = ⟨l.toArray⟩ ++ ⟨m.toArray⟩ := by
  apply ByteArray.ext
  simp [ByteArray.data_append]
/-- The walks' beginning: a memory that may not be. -/
theorem start_bad {many : Int} (h : many < 1 ∨ 160 < many) (w : World) : Calls Try.prog 10 #[.int .i64 many] w fun e w' => e = .returned (.tuple #[.pointer none, .int .i64 80]) ∧ w = w' := New_bad many w h
def NewP (w : World) (n : Nat) (e : Ending) (w' : World) : Prop := ∃ p F, e = .returned (.tuple #[ptr p, .int .i64 0]) ∧ MemAt w' p F ⟨n, fun _ => 0⟩ ∧ Fr [] w w' ∧ w.heap.size ≤ p ∧ w.heap.size ≤ F
theorem New_any (n : Nat) (w : World) (h1 : 1 ≤ n) (h2 : n ≤ 160) : Calls Try.prog 10 #[.int .i64 n] w (NewP w n) :=
  (New_ok n w h1 h2).mono fun e w' ⟨he, hm, hf⟩ => ⟨_, _, he, hm, hf, by omega, by omega⟩
set_option maxRecDepth 100000 in
set_option maxHeartbeats 1000000 in
theorem splits_bad (many c0 c1 c2 c3 : Int) (v : Value) (w : World) (h : many < 1 ∨ 160 < many) (A : Option Addr) (m cap : Nat) (hv : v = .slice A m cap) :
    Calls Try.prog 4 #[.int .i64 many, v, .agg #[.int .i64 c0, .int .i64 c1, .int .i64 c2, .int .i64 c3]] w fun e w' => e = .returned (.bool true) ∧ Fr [] w w' := by
  subst hv
  have Hn := Lib.hid fun W => New_bad many W h
  have Hx := Lib.hid fun W => fixed_any W
  clear h
  go_enter Try.func4, Try.ntmps4
  go_wp2_with (first
    | (go_at_call 10; go_must ((with_reducible refine (Hn.out _).mono ?_); rintro e w1 ⟨rfl, rfl⟩))
    | (go_at_call 11; go_must ((with_reducible refine (Hx.out _).mono ?_); rintro e w1 ⟨rfl, hf1⟩))
    | fail)
  go_ret
  exact ⟨rfl, ((Fr.refl [] w).alloc _).trans hf1⟩
set_option maxRecDepth 100000 in
set_option maxHeartbeats 8000000 in
theorem splits_ok (n : Nat) (at_ a b c3 : Int) (tb m cap : Nat) (A : Option Addr) (t : List Pg) (w : World) (h1 : 1 ≤ n) (h2 : n ≤ 160) (ht : Tb w tb (.slice A m cap) t) (htb : tb < w.heap.size ∨ tb = 0)
    (hat : -9223372036854775808 ≤ at_ ∧ at_ ≤ 9223372036854775807) :
    Calls Try.prog 4 #[.int .i64 n, .slice A m cap, .agg #[.int .i64 at_, .int .i64 a, .int .i64 b, .int .i64 c3]] w fun e w' => e = .returned (.bool true) ∧ Fr [] w w' := by
  have Hn := Lib.hid fun W => New_any n W h1 h2
  have Hx := Lib.hid fun W => fixed_any W
  have Ht := Lib.hid ht
  clear ht
  go_enter Try.func4, Try.ntmps4
  go_wp2_with (first
    | (go_at_call 10; go_must ((with_reducible refine (Hn.out _).mono ?_); rintro e w1 ⟨p, F, rfl, hm1, hf1, hp1, hF1⟩))
    | (go_at_call 11; go_must ((with_reducible refine (Hx.out _).mono ?_); rintro e w2 ⟨rfl, hf2⟩))
    | fail)
  have hbox := (Blk.new w 40 #[.int .i64 at_, .int .i64 a, .int .i64 b, .int .i64 c3]).fr hf1 (by simp)
  have hboxN : Hid (w.heap.size < w1.heap.size) := Lib.hid hbox.lt
  have HM2 := Lib.hid (hm1.to hf2 (by simp) (by simp))
  have HB2 := Lib.hid (hbox.fr hf2 (by simp))
  have HF2 := Lib.hid ((((Fr.refl [] w).alloc (.cells #[.int .i64 at_, .int .i64 a, .int .i64 b, .int .i64 c3] 40)).trans hf1).trans hf2)
  have hpS : w.heap.size < p := by simp at hp1; omega
  have hFS : w.heap.size < F := by simp at hF1; omega
  clear hm1 hf1 hf2 hbox hp1 hF1
  go_loopg [9] n (fun gg i wr => ∃ k : Nat, k + gg = n ∧ i = .int .i64 k ∧ (∃ st, st.n = n ∧ MemAt wr p F st) ∧ Fr [F] w2 wr)
  case atStart => exact ⟨0, by omega, rfl, ⟨_, rfl, HM2.out⟩, Fr.refl _ _⟩
  case round =>
    obtain ⟨k, hk, rfl, ⟨st, hst, hM⟩, hf⟩ := hrel
    have Hk := Lib.hid hk
    have HM := Lib.hid hM
    have Hf := Lib.hid hf
    have Hst := Lib.hid hst
    by_cases hlt : k < n
    · have hki : (k : Int) < (n : Int) := by omega
      have Hfr := Lib.hid (Frames_any p F st wr hM)
      rw [hst] at Hfr
      have hcv := conv_oneI ((k : Int) + 1) (by omega) (by omega) wr
      have hq2 : (k : Int) % 256 = (k : Int) := by omega
      have Hl : Hid (Calls Try.prog 12 #[ptr p, .int .i64 k, .int .i64 ((k : Int) % 256), .string ⟨#[UInt8.ofNat ((k : Int) + 1).toNat]⟩] (wr.alloc (.cells #[.int .u8 ((k : Int) + 1)] 5)) fun e w' => e = .returned (.int .i64 0) ∧ (∃ st', st'.n = n ∧ MemAt w' p F st') ∧ Fr [F] (wr.alloc (.cells #[.int .u8 ((k : Int) + 1)] 5)) w') := by
        rw [hq2]
        exact Lib.hid ((Lay_ok p F st _ k k _ (hM.to ((Fr.refl [] wr).alloc _) (by simp) (by simp)) (by omega) (by show k + 1 ≤ 256; omega)).mono fun e w' ⟨h1, h2, h3⟩ => ⟨h1, ⟨⟨st.n, putL st.b (k * 256 + k) _⟩, hst, h2⟩, h3⟩)
      clear hq2
      generalize UInt8.ofNat ((k : Int) + 1).toNat = cc at *
      clear hk hf hM hst
      go_wp2_with (first
        | (go_at_call 17; go_must ((with_reducible refine (Hfr.out).mono ?_); rintro e w3 ⟨rfl, rfl⟩))
        | (go_at_call 12; go_must ((refine (Hl.out).mono ?_); rintro e w3 ⟨rfl, hm3, hf3⟩))
        | fail)
      go_roundg (n - (k + 1))
      case measure => have := Hk.out; omega
      case rel => exact ⟨k + 1, by have := Hk.out; omega, by go_num, hm3, Hf.out.trans (((Fr.refl [F] wr).alloc _).trans hf3)⟩
    · have hki : ¬ (k : Int) < (n : Int) := by omega
      have Hfr := Lib.hid (Frames_any p F st wr hM)
      rw [hst] at Hfr
      have hbw := HB2.out.fr hf (by simp; omega)
      have q0 := hbw.cell 0
      have q1 := hbw.cell 1
      have q2 := hbw.cell 2
      have q3 := hbw.cell 3
      simp at q0 q1 q2 q3
      have Hr : Hid (∀ W, Fr [] wr W → ∀ a n r, a ≤ 9223372036854775807 → Calls Try.prog 18 #[ptr p, .slice A m cap, .int .i64 a, .int .i64 n, .int .i64 r] W fun e w' => e = .returned (.tuple #[.string ⟨(rdR st t a n r).1.toArray⟩, .int .i64 (rdR st t a n r).2]) ∧ Fr [] W w') :=
        Lib.hid fun W hfw a n r ha => Read_any tb p F m cap st A t a n r W ((Ht.out.fr HF2.out (by simp)).fr (hf.trans (hfw.mono (by simp))) (by simp; omega)) (hM.to hfw (by simp) (by simp)) ha (by have := HF2.out.size; have := hf.size; have := hfw.size; have := hM.hd.lt; omega)
      have HFin : Hid (∀ W, Fr [] wr W → Fr [] w W) := Lib.hid fun W hfw => (HF2.out.mono (by simp)).trans ((hf.step (S' := []) hfw (by simp)).mono (S' := [F]) (by simp)) |>.mono (fun k hk hlt => by simp at hk; omega)
      clear hk hf hM hst hbw
      cases hc3 : (c3.tmod 2 == 0)
      · by_cases b1 : a < 0
        · go_wp2_with (first
            | (go_at_call 17; go_must ((with_reducible refine (Hfr.out).mono ?_); rintro e w3 ⟨rfl, rfl⟩))
            | fail)
          go_quiet (fail)
          go_wp2_with fail
          go_ret
          exact ⟨rfl, HFin.out _ ((Fr.refl [] _).drewN _)⟩
        · by_cases b2 : b < 0
          · go_wp2_with (first
              | (go_at_call 17; go_must ((with_reducible refine (Hfr.out).mono ?_); rintro e w3 ⟨rfl, rfl⟩))
              | fail)
            go_quiet (fail)
            go_wp2_with fail
            go_ret
            exact ⟨rfl, HFin.out _ ((Fr.refl [] _).drewN _)⟩
          · by_cases b3 : 2000 < a
            · go_wp2_with (first
                | (go_at_call 17; go_must ((with_reducible refine (Hfr.out).mono ?_); rintro e w3 ⟨rfl, rfl⟩))
                | fail)
              go_quiet (fail)
              go_wp2_with fail
              go_ret
              exact ⟨rfl, HFin.out _ ((Fr.refl [] _).drewN _)⟩
            · by_cases b4 : 2000 < b
              · go_wp2_with (first
                  | (go_at_call 17; go_must ((with_reducible refine (Hfr.out).mono ?_); rintro e w3 ⟨rfl, rfl⟩))
                  | fail)
                go_quiet (fail)
                go_wp2_with fail
                go_ret
                exact ⟨rfl, HFin.out _ ((Fr.refl [] _).drewN _)⟩
              · by_cases b5 : 1000000 < at_
                · go_wp2_with (first
                    | (go_at_call 17; go_must ((with_reducible refine (Hfr.out).mono ?_); rintro e w3 ⟨rfl, rfl⟩))
                    | fail)
                  go_quiet (fail)
                  go_wp2_with fail
                  go_ret
                  exact ⟨rfl, HFin.out _ ((Fr.refl [] _).drewN _)⟩
                · obtain ⟨a, rfl⟩ := Int.eq_ofNat_of_zero_le (by omega : 0 ≤ a)
                  obtain ⟨b, rfl⟩ := Int.eq_ofNat_of_zero_le (by omega : 0 ≤ b)
                  have hsp := rd_split st t at_ 1 a b (by simp) (by omega) (by omega)
                  have r1 : Hid (∀ W, Fr [] wr W → Calls Try.prog 18 #[ptr p, .slice A m cap, .int .i64 at_, .int .i64 ((a : Int) + (b : Int)), .int .i64 1] W fun e w' => e = .returned (.tuple #[.string ⟨(rdR st t at_ ((a : Int) + (b : Int)) 1).1.toArray⟩, .int .i64 (rdR st t at_ ((a : Int) + (b : Int)) 1).2]) ∧ Fr [] W w') := Lib.hid fun W hfw => Hr.out W hfw _ _ _ (by omega)
                  have r2 : Hid (∀ W, Fr [] wr W → Calls Try.prog 18 #[ptr p, .slice A m cap, .int .i64 at_, .int .i64 a, .int .i64 1] W fun e w' => e = .returned (.tuple #[.string ⟨(rdR st t at_ a 1).1.toArray⟩, .int .i64 (rdR st t at_ a 1).2]) ∧ Fr [] W w') := Lib.hid fun W hfw => Hr.out W hfw _ _ _ (by omega)
                  have r3 : Hid (∀ W, Fr [] wr W → Calls Try.prog 18 #[ptr p, .slice A m cap, .int .i64 (at_ + (a : Int)), .int .i64 b, .int .i64 1] W fun e w' => e = .returned (.tuple #[.string ⟨(rdR st t (at_ + (a : Int)) b 1).1.toArray⟩, .int .i64 (rdR st t (at_ + (a : Int)) b 1).2]) ∧ Fr [] W w') := Lib.hid fun W hfw => Hr.out W hfw _ _ _ (by omega)
                  generalize rdR st t at_ ((a : Int) + (b : Int)) 1 = S at *
                  generalize rdR st t at_ a 1 = X at *
                  generalize rdR st t (at_ + (a : Int)) b 1 = Y at *
                  obtain ⟨ls, es⟩ := S
                  obtain ⟨lx, ex⟩ := X
                  obtain ⟨ly, ey⟩ := Y
                  simp only at hsp r1 r2 r3
                  have HSp := Lib.hid hsp
                  clear hsp
                  by_cases hx : ex = 0
                  · by_cases hy : ey = 0
                    · obtain ⟨h1, h2, h3⟩ := HSp.out.2.2 hx hy
                      injection h1 with h1 h4
                      subst hx; subst hy; subst h4; subst h1
                      rw [str_append] at r1
                      have hX : (⟨lx.toArray⟩ : ByteArray).size = a := h2
                      have hY : (⟨ly.toArray⟩ : ByteArray).size = b := h3
                      generalize (⟨lx.toArray⟩ : ByteArray) = SX at *
                      generalize (⟨ly.toArray⟩ : ByteArray) = SY at *
                      clear h2 h3 HSp Hr
                      go_wp2_with (first
                        | (go_at_call 17; go_must ((with_reducible refine (Hfr.out).mono ?_); rintro e w3 ⟨rfl, rfl⟩))
                        | fail)
                      go_quiet (fail)
                      go_wp2_with fail
                      refine (r1.out _ ((Fr.refl [] _).drewN _)).mono ?_
                      rintro e w4 ⟨rfl, hf4⟩
                      have hf4 := ((Fr.refl [] wr).drewN _).trans hf4
                      go_wp2_with fail
                      refine (r2.out _ hf4).mono ?_
                      rintro e w5 ⟨rfl, hf5⟩
                      have hf5 := hf4.trans hf5
                      go_wp2_with fail
                      refine (r3.out _ hf5).mono ?_
                      rintro e w6 ⟨rfl, hf6⟩
                      have hf6 := hf5.trans hf6
                      go_wp2_with fail
                      go_ret
                      exact ⟨rfl, HFin.out _ hf6⟩
                    · obtain ⟨h1, h2⟩ := HSp.out.2.1 hx hy
                      injection h1 with h1 h4
                      subst hx; subst h4; subst h1; subst h2
                      have hy1 : (es != 0) = true := by rw [bne_iff_ne]; exact hy
                      generalize (⟨lx.toArray⟩ : ByteArray) = SX at *
                      clear HSp Hr
                      go_wp2_with (first
                        | (go_at_call 17; go_must ((with_reducible refine (Hfr.out).mono ?_); rintro e w3 ⟨rfl, rfl⟩))
                        | fail)
                      go_quiet (fail)
                      go_wp2_with fail
                      refine (r1.out _ ((Fr.refl [] _).drewN _)).mono ?_
                      rintro e w4 ⟨rfl, hf4⟩
                      have hf4 := ((Fr.refl [] wr).drewN _).trans hf4
                      go_wp2_with fail
                      refine (r2.out _ hf4).mono ?_
                      rintro e w5 ⟨rfl, hf5⟩
                      have hf5 := hf4.trans hf5
                      go_wp2_with fail
                      refine (r3.out _ hf5).mono ?_
                      rintro e w6 ⟨rfl, hf6⟩
                      have hf6 := hf5.trans hf6
                      go_wp2_with fail
                      go_ret
                      exact ⟨rfl, HFin.out _ hf6⟩
                  · obtain ⟨h1, h2⟩ := HSp.out.1 hx
                    injection h1 with h1 h4
                    subst h4; subst h1; subst h2
                    have hx1 : (es != 0) = true := by rw [bne_iff_ne]; exact hx
                    generalize (⟨ly.toArray⟩ : ByteArray) = SY at *
                    clear HSp Hr
                    go_wp2_with (first
                      | (go_at_call 17; go_must ((with_reducible refine (Hfr.out).mono ?_); rintro e w3 ⟨rfl, rfl⟩))
                      | fail)
                    go_quiet (fail)
                    go_wp2_with fail
                    refine (r1.out _ ((Fr.refl [] _).drewN _)).mono ?_
                    rintro e w4 ⟨rfl, hf4⟩
                    have hf4 := ((Fr.refl [] wr).drewN _).trans hf4
                    go_wp2_with fail
                    refine (r2.out _ hf4).mono ?_
                    rintro e w5 ⟨rfl, hf5⟩
                    have hf5 := hf4.trans hf5
                    go_wp2_with fail
                    refine (r3.out _ hf5).mono ?_
                    rintro e w6 ⟨rfl, hf6⟩
                    have hf6 := hf5.trans hf6
                    go_wp2_with fail
                    go_ret
                    exact ⟨rfl, HFin.out _ hf6⟩
      · by_cases b1 : a < 0
        · go_wp2_with (first
            | (go_at_call 17; go_must ((with_reducible refine (Hfr.out).mono ?_); rintro e w3 ⟨rfl, rfl⟩))
            | fail)
          go_quiet (fail)
          go_wp2_with fail
          go_ret
          exact ⟨rfl, HFin.out _ ((Fr.refl [] _).drewN _)⟩
        · by_cases b2 : b < 0
          · go_wp2_with (first
              | (go_at_call 17; go_must ((with_reducible refine (Hfr.out).mono ?_); rintro e w3 ⟨rfl, rfl⟩))
              | fail)
            go_quiet (fail)
            go_wp2_with fail
            go_ret
            exact ⟨rfl, HFin.out _ ((Fr.refl [] _).drewN _)⟩
          · by_cases b3 : 2000 < a
            · go_wp2_with (first
                | (go_at_call 17; go_must ((with_reducible refine (Hfr.out).mono ?_); rintro e w3 ⟨rfl, rfl⟩))
                | fail)
              go_quiet (fail)
              go_wp2_with fail
              go_ret
              exact ⟨rfl, HFin.out _ ((Fr.refl [] _).drewN _)⟩
            · by_cases b4 : 2000 < b
              · go_wp2_with (first
                  | (go_at_call 17; go_must ((with_reducible refine (Hfr.out).mono ?_); rintro e w3 ⟨rfl, rfl⟩))
                  | fail)
                go_quiet (fail)
                go_wp2_with fail
                go_ret
                exact ⟨rfl, HFin.out _ ((Fr.refl [] _).drewN _)⟩
              · by_cases b5 : 1000000 < at_
                · go_wp2_with (first
                    | (go_at_call 17; go_must ((with_reducible refine (Hfr.out).mono ?_); rintro e w3 ⟨rfl, rfl⟩))
                    | fail)
                  go_quiet (fail)
                  go_wp2_with fail
                  go_ret
                  exact ⟨rfl, HFin.out _ ((Fr.refl [] _).drewN _)⟩
                · obtain ⟨a, rfl⟩ := Int.eq_ofNat_of_zero_le (by omega : 0 ≤ a)
                  obtain ⟨b, rfl⟩ := Int.eq_ofNat_of_zero_le (by omega : 0 ≤ b)
                  have hsp := rd_split st t at_ 4 a b (by simp) (by omega) (by omega)
                  have r1 : Hid (∀ W, Fr [] wr W → Calls Try.prog 18 #[ptr p, .slice A m cap, .int .i64 at_, .int .i64 ((a : Int) + (b : Int)), .int .i64 4] W fun e w' => e = .returned (.tuple #[.string ⟨(rdR st t at_ ((a : Int) + (b : Int)) 4).1.toArray⟩, .int .i64 (rdR st t at_ ((a : Int) + (b : Int)) 4).2]) ∧ Fr [] W w') := Lib.hid fun W hfw => Hr.out W hfw _ _ _ (by omega)
                  have r2 : Hid (∀ W, Fr [] wr W → Calls Try.prog 18 #[ptr p, .slice A m cap, .int .i64 at_, .int .i64 a, .int .i64 4] W fun e w' => e = .returned (.tuple #[.string ⟨(rdR st t at_ a 4).1.toArray⟩, .int .i64 (rdR st t at_ a 4).2]) ∧ Fr [] W w') := Lib.hid fun W hfw => Hr.out W hfw _ _ _ (by omega)
                  have r3 : Hid (∀ W, Fr [] wr W → Calls Try.prog 18 #[ptr p, .slice A m cap, .int .i64 (at_ + (a : Int)), .int .i64 b, .int .i64 4] W fun e w' => e = .returned (.tuple #[.string ⟨(rdR st t (at_ + (a : Int)) b 4).1.toArray⟩, .int .i64 (rdR st t (at_ + (a : Int)) b 4).2]) ∧ Fr [] W w') := Lib.hid fun W hfw => Hr.out W hfw _ _ _ (by omega)
                  generalize rdR st t at_ ((a : Int) + (b : Int)) 4 = S at *
                  generalize rdR st t at_ a 4 = X at *
                  generalize rdR st t (at_ + (a : Int)) b 4 = Y at *
                  obtain ⟨ls, es⟩ := S
                  obtain ⟨lx, ex⟩ := X
                  obtain ⟨ly, ey⟩ := Y
                  simp only at hsp r1 r2 r3
                  have HSp := Lib.hid hsp
                  clear hsp
                  by_cases hx : ex = 0
                  · by_cases hy : ey = 0
                    · obtain ⟨h1, h2, h3⟩ := HSp.out.2.2 hx hy
                      injection h1 with h1 h4
                      subst hx; subst hy; subst h4; subst h1
                      rw [str_append] at r1
                      have hX : (⟨lx.toArray⟩ : ByteArray).size = a := h2
                      have hY : (⟨ly.toArray⟩ : ByteArray).size = b := h3
                      generalize (⟨lx.toArray⟩ : ByteArray) = SX at *
                      generalize (⟨ly.toArray⟩ : ByteArray) = SY at *
                      clear h2 h3 HSp Hr
                      go_wp2_with (first
                        | (go_at_call 17; go_must ((with_reducible refine (Hfr.out).mono ?_); rintro e w3 ⟨rfl, rfl⟩))
                        | fail)
                      go_quiet (fail)
                      go_wp2_with fail
                      refine (r1.out _ ((Fr.refl [] _).drewN _)).mono ?_
                      rintro e w4 ⟨rfl, hf4⟩
                      have hf4 := ((Fr.refl [] wr).drewN _).trans hf4
                      go_wp2_with fail
                      refine (r2.out _ hf4).mono ?_
                      rintro e w5 ⟨rfl, hf5⟩
                      have hf5 := hf4.trans hf5
                      go_wp2_with fail
                      refine (r3.out _ hf5).mono ?_
                      rintro e w6 ⟨rfl, hf6⟩
                      have hf6 := hf5.trans hf6
                      go_wp2_with fail
                      go_ret
                      exact ⟨rfl, HFin.out _ hf6⟩
                    · obtain ⟨h1, h2⟩ := HSp.out.2.1 hx hy
                      injection h1 with h1 h4
                      subst hx; subst h4; subst h1; subst h2
                      have hy1 : (es != 0) = true := by rw [bne_iff_ne]; exact hy
                      generalize (⟨lx.toArray⟩ : ByteArray) = SX at *
                      clear HSp Hr
                      go_wp2_with (first
                        | (go_at_call 17; go_must ((with_reducible refine (Hfr.out).mono ?_); rintro e w3 ⟨rfl, rfl⟩))
                        | fail)
                      go_quiet (fail)
                      go_wp2_with fail
                      refine (r1.out _ ((Fr.refl [] _).drewN _)).mono ?_
                      rintro e w4 ⟨rfl, hf4⟩
                      have hf4 := ((Fr.refl [] wr).drewN _).trans hf4
                      go_wp2_with fail
                      refine (r2.out _ hf4).mono ?_
                      rintro e w5 ⟨rfl, hf5⟩
                      have hf5 := hf4.trans hf5
                      go_wp2_with fail
                      refine (r3.out _ hf5).mono ?_
                      rintro e w6 ⟨rfl, hf6⟩
                      have hf6 := hf5.trans hf6
                      go_wp2_with fail
                      go_ret
                      exact ⟨rfl, HFin.out _ hf6⟩
                  · obtain ⟨h1, h2⟩ := HSp.out.1 hx
                    injection h1 with h1 h4
                    subst h4; subst h1; subst h2
                    have hx1 : (es != 0) = true := by rw [bne_iff_ne]; exact hx
                    generalize (⟨ly.toArray⟩ : ByteArray) = SY at *
                    clear HSp Hr
                    go_wp2_with (first
                      | (go_at_call 17; go_must ((with_reducible refine (Hfr.out).mono ?_); rintro e w3 ⟨rfl, rfl⟩))
                      | fail)
                    go_quiet (fail)
                    go_wp2_with fail
                    refine (r1.out _ ((Fr.refl [] _).drewN _)).mono ?_
                    rintro e w4 ⟨rfl, hf4⟩
                    have hf4 := ((Fr.refl [] wr).drewN _).trans hf4
                    go_wp2_with fail
                    refine (r2.out _ hf4).mono ?_
                    rintro e w5 ⟨rfl, hf5⟩
                    have hf5 := hf4.trans hf5
                    go_wp2_with fail
                    refine (r3.out _ hf5).mono ?_
                    rintro e w6 ⟨rfl, hf6⟩
                    have hf6 := hf5.trans hf6
                    go_wp2_with fail
                    go_ret
                    exact ⟨rfl, HFin.out _ hf6⟩
theorem splits_walk (many at_ a b c3 : Int) (tb m cap : Nat) (A : Option Addr) (t : List Pg) (w : World) (ht : Tb w tb (.slice A m cap) t) (htb : tb < w.heap.size ∨ tb = 0)
    (hat : -9223372036854775808 ≤ at_ ∧ at_ ≤ 9223372036854775807) :
    Calls Try.prog 4 #[.int .i64 many, .slice A m cap, .agg #[.int .i64 at_, .int .i64 a, .int .i64 b, .int .i64 c3]] w fun e w' => e = .returned (.bool true) ∧ Fr [] w w' := by
  by_cases h : many < 1 ∨ 160 < many
  · exact splits_bad many at_ a b c3 _ w h A m cap rfl
  · obtain ⟨n, rfl⟩ := Int.eq_ofNat_of_zero_le (by omega : 0 ≤ many)
    exact splits_ok n at_ a b c3 tb m cap A t w (by omega) (by omega) ht htb hat
end Go.Proofs.Ytdkihajajdhpnaa

/- The reference's Write and Read. -/
import Derived.Test.YtdkihajajdhpnaaW18
import Derived.Deep.RegionHeld3
import Derived.Deep.AppendLies
import Derived.Deep.DrawnRows
namespace Go.Proofs.Ytdkihajajdhpnaa
open Go.RowKit
set_option linter.unusedVariables false
set_option linter.unusedSimpArgs false
theorem rCheck_no (b q G n m cap : Nat) (A : Option Addr) (t : List Pg) (w : World) (ht : Tb w b (.slice A m cap) t) (h : RHd w q G n) (hT : okT n t = false) :
    Calls Try.prog 24 #[ptr q, .slice A m cap] w fun e w' => e = .returned (.int .i64 84) ∧ Fr [] w w' :=
  (rCheck_any b q G n m cap A t w ht h).mono fun e w' ⟨he, hf⟩ => ⟨by rw [he, chT_no hT], hf⟩
theorem rCheck_ok (b q G n m cap : Nat) (A : Option Addr) (t : List Pg) (w : World) (ht : Tb w b (.slice A m cap) t) (h : RHd w q G n) (hT : okT n t = true) :
    Calls Try.prog 24 #[ptr q, .slice A m cap] w fun e w' => e = .returned (.int .i64 0) ∧ Fr [] w w' :=
  (rCheck_any b q G n m cap A t w ht h).mono fun e w' ⟨he, hf⟩ => ⟨by rw [he, chT_ok hT], hf⟩
def RWriteP (w : World) (q G : Nat) (st : St) (t : List Pg) (a : Int) (s : ByteArray) (e : Ending) (w' : World) : Prop :=
  e = .returned (.int .i64 (wrE st t a s)) ∧ RMem w' q G (wrS st t a s) ∧ Fr [G] w w'
set_option maxRecDepth 100000 in
set_option maxHeartbeats 400000 in
theorem rWrite_no (b q G m cap : Nat) (st : St) (A : Option Addr) (t : List Pg) (a : Int) (s : ByteArray) (w : World) (ht : Tb w b (.slice A m cap) t) (h : RMem w q G st) (hT : okT st.n t = false) :
    Calls Try.prog 37 #[ptr q, .slice A m cap, .int .i64 a, .string s] w fun e w' => e = .returned (.int .i64 84) ∧ Fr [] w w' := by
  have Hc := Lib.hid (rCheck_no b q G st.n m cap A t w ht h.hd hT)
  clear h ht hT
  go_enter Try.func37, Try.ntmps37
  go_wp2_with (go_at_call 24; go_must ((with_reducible refine Hc.out.mono ?_); rintro e w1 ⟨rfl, hf1⟩))
  go_ret
  exact ⟨rfl, hf1⟩
set_option maxRecDepth 100000 in
set_option maxHeartbeats 400000 in
theorem rWrite_long (b q G m cap : Nat) (st : St) (A : Option Addr) (t : List Pg) (a : Int) (s : ByteArray) (w : World) (ht : Tb w b (.slice A m cap) t) (h : RMem w q G st) (hT : okT st.n t = true) (hs : 4096 < s.size) :
    Calls Try.prog 37 #[ptr q, .slice A m cap, .int .i64 a, .string s] w fun e w' => e = .returned (.int .i64 80) ∧ Fr [] w w' := by
  have Hc := Lib.hid (rCheck_ok b q G st.n m cap A t w ht h.hd hT)
  have d1 : (4096 : Int) < (s.size : Int) := by omega
  clear h ht hT
  go_enter Try.func37, Try.ntmps37
  go_wp2_with (go_at_call 24; go_must ((with_reducible refine Hc.out.mono ?_); rintro e w1 ⟨rfl, hf1⟩))
  go_ret
  exact ⟨rfl, hf1⟩
theorem sub_one (s : ByteArray) (k : Nat) (hk : k < s.size) : s.extract k (k + 1) = ⟨#[s[k]]⟩ := by
  apply ByteArray.ext
  apply Array.ext'
  have h3 : s[k] = s.data[k] := rfl
  simp only [ByteArray.data_extract, Array.toList_extract, List.extract]
  have hl : k < s.data.toList.length := by simpa using hk
  rw [show k + 1 - k = 1 from by omega, List.drop_eq_getElem_cons hl, h3]
  simp
set_option maxRecDepth 100000 in
set_option maxHeartbeats 1000000 in
theorem rWrite_main (b q G m cap : Nat) (st : St) (A : Option Addr) (t : List Pg) (a : Int) (s : ByteArray) (w : World) (ht : Tb w b (.slice A m cap) t) (h : RMem w q G st) (hT : okT st.n t = true) (hn : s.size ≤ 4096) (ha : a ≤ 9223372036854775807) (hbG : b ≠ G) :
    Calls Try.prog 37 #[ptr q, .slice A m cap, .int .i64 a, .string s] w fun e w' => e = .returned (.int .i64 (thr t 2 a s.size)) ∧ RMem w' q G (if thr t 2 a s.size = 0 then ⟨st.n, wrB t st.b a s.data.toList⟩ else st) ∧ Fr [G] w w' := by
  have hm16 : m ≤ 16 := by have := okT_len hT; have := ht.n_eq; omega
  have Hc := Lib.hid (rCheck_ok b q G st.n m cap A t w ht h.hd hT)
  have Hth := Lib.hid fun W (hf : Fr [] w W) => there_any b m cap A t W a 2 s.size (ht.fr hf (by simp)) hm16 hn ha
  have HT := Lib.hid ht
  have HM := Lib.hid h
  have HTT := Lib.hid hT
  have hmt := Lib.hid ht.n_eq
  have d1 : ¬ (4096 : Int) < (s.size : Int) := by omega
  clear h ht hT
  by_cases h0 : thr t 2 a s.size = 0
  · have Hch := Lib.hid (thr_of_zero h0)
    rw [h0] at Hth
    rw [h0, if_pos rfl]
    clear h0
    go_enter Try.func37, Try.ntmps37
    go_wp2_with (first
      | (go_at_call 24; go_must ((with_reducible refine Hc.out.mono ?_); rintro e w1 ⟨rfl, hf1⟩))
      | (go_at_call 44; go_must ((with_reducible refine (Hth.out _ hf1).mono ?_); rintro e w2 ⟨rfl, hf2⟩))
      | fail)
    have HF2 := Lib.hid (hf1.trans hf2)
    have HM2 := Lib.hid (HM.out.to HF2.out (by simp) (by simp))
    clear hf1 hf2
    go_loopg [10] s.size (fun gg i wr => ∃ k : Nat, k + gg = s.size ∧ i = .int .i64 k ∧ RMem wr q G ⟨st.n, wrB t st.b a (s.data.toList.take k)⟩ ∧ Fr [G] w2 wr)
    case atStart => exact ⟨0, by omega, rfl, HM2.out, Fr.refl _ _⟩
    case round =>
      obtain ⟨k, hk, rfl, hM, hf⟩ := hrel
      have Hk := Lib.hid hk
      have Hf := Lib.hid hf
      by_cases hlt : k < s.size
      · have hki : (k : Int) < (s.size : Int) := by omega
        have hk0 : (0 : Int) ≤ (k : Int) := by omega
        obtain ⟨a', _, ha', -⟩ := ch1_wr HTT.out (Hch.out 0 (by omega))
        obtain ⟨q', pg, hq, hql, hpg, f0, f1, r0, r7, -, hloc⟩ := ch1_wr HTT.out (Hch.out k hlt)
        obtain rfl : a = (a' : Int) := by omega
        obtain rfl : q' = a' + k := by omega
        obtain ⟨f, hpf⟩ := Int.eq_ofNat_of_zero_le f0
        obtain ⟨off, rfl, hbl, c0, c1⟩ := ((HT.out.fr HF2.out (by simp)).fr hf (by simpa using hbG)).at_ hpg
        rw [hpf] at c0 hloc
        have hsub := sub_one s k hlt
        have hB := wrB_take (t := t) (b := st.b) (a := (a' : Int)) hlt
        rw [hloc] at hB
        have HL : Hid (∀ W, Fr [] wr W → Calls Try.prog 40 #[ptr q, .int .i64 f, .int .i64 ((a' + k) % 256 : Nat), .string (s.extract k (k + 1))] W fun e w' => e = .returned (.int .i64 0) ∧ RMem w' q G ⟨st.n, wrB t st.b a' (s.data.toList.take (k + 1))⟩ ∧ Fr [G] W w') := by
          refine Lib.hid fun W hW => ?_
          rw [hsub]
          refine (rLay_ok q G _ W f ((a' + k) % 256) ⟨#[s[k]]⟩ (hM.to hW (by simp) (by simp)) (by show f < st.n; omega) (by show _ + 1 ≤ 256; omega)).mono fun e w' ⟨he, hm, hf⟩ => ⟨he, ?_, hf⟩
          have e1 : putL (wrB t st.b a' (s.data.toList.take k)) (f * 256 + (a' + k) % 256) [s[k]] = wrB t st.b a' (s.data.toList.take (k + 1)) := by
            rw [hB]
            rfl
          have e2 : (⟨#[s[k]]⟩ : ByteArray).data.toList = [s[k]] := rfl
          rw [e2, e1] at hm
          exact hm
        have hd0 : (0 : Int) ≤ (a' : Int) + (k : Int) := by omega
        have hd1 : (a' : Int) + (k : Int) < 4096 := by have := okT_len HTT.out; omega
        have hm0 := hmt.out
        have hd2 : ((a' : Int) + (k : Int)) / 256 < (m : Int) := by omega
        have hd3 : (0 : Int) ≤ ((a' : Int) + (k : Int)) / 256 := by omega
        have hdt : (((a' : Int) + (k : Int)) / 256).toNat = (a' + k) / 256 := by omega
        have hmd' : (((a' + k) % 256 : Nat) : Int) = ((a' : Int) + (k : Int)) % 256 := by omega
        rw [hmd'] at HL
        clear hk hf hM hq hql hpg hloc hpf hbl hB hsub hm0 hmd' f0 f1 r0 r7
        go_wp2_with fail
        have hsum : IntKind.i64.wrap ((a' : Int) + (k : Int)) = (a' : Int) + (k : Int) := IntWalk.i64_in _ (by omega)
        have hdv : IntKind.i64.wrap (((a' : Int) + (k : Int)).tdiv 256) = ((a' : Int) + (k : Int)) / 256 := by rw [Int.tdiv_eq_ediv_of_nonneg hd0]; exact IntWalk.i64_in _ (by omega)
        have hmd : ((a' : Int) + (k : Int)).tmod 256 = ((a' : Int) + (k : Int)) % 256 := Int.tmod_eq_emod_of_nonneg hd0
        have hk1 : IntKind.i64.wrap ((k : Int) + 1) = (k : Int) + 1 := IntWalk.i64_in _ (by omega)
        have hk1n : ((k : Int) + 1).toNat = k + 1 := by omega
        have hk2 : (k : Int) + 1 ≤ (s.size : Int) := by omega
        have hk3 : (k : Int) ≤ (k : Int) + 1 := by omega
        go_still_tail 18, (by kernel_rfl)
        change wpList _ _ _ _ _ wr.drew
        go_wp2_with (go_at_call 40; go_must ((with_reducible refine (HL.out _ ((Fr.refl [] wr).drew)).mono ?_); rintro e w3 ⟨rfl, hm3, hf3⟩; have hf4 := Hf.out.drew.trans hf3))
        go_roundg (s.size - (k + 1))
        case measure => have := Hk.out; omega
        case rel => exact ⟨k + 1, by have := Hk.out; omega, by go_num, hm3, hf4⟩
      · have hki : ¬ (k : Int) < (s.size : Int) := by omega
        have hks : s.data.toList.take k = s.data.toList := List.take_of_length_le (by have : s.data.toList.length = s.size := rfl; omega)
        rw [hks] at hM
        have HMf := Lib.hid hM
        clear hk hf hM hks
        go_wp2_with fail
        go_ret
        exact ⟨rfl, HMf.out, (HF2.out.mono (by simp)).trans Hf.out⟩
  · rw [if_neg h0]
    have h0b : (thr t 2 a s.size != 0) = true := by rw [bne_iff_ne]; exact h0
    generalize thr t 2 a s.size = E at *
    clear h0
    go_enter Try.func37, Try.ntmps37
    go_wp2_with (first
      | (go_at_call 24; go_must ((with_reducible refine Hc.out.mono ?_); rintro e w1 ⟨rfl, hf1⟩))
      | (go_at_call 44; go_must ((with_reducible refine (Hth.out _ hf1).mono ?_); rintro e w2 ⟨rfl, hf2⟩))
      | fail)
    go_ret
    exact ⟨rfl, HM.out.to (hf1.trans hf2) (by simp) (by simp), (hf1.trans hf2).mono (by simp)⟩
theorem rWrite_any (b q G m cap : Nat) (st : St) (A : Option Addr) (t : List Pg) (a : Int) (s : ByteArray) (w : World) (ht : Tb w b (.slice A m cap) t) (h : RMem w q G st) (ha : a ≤ 9223372036854775807) (hbG : b ≠ G) :
    Calls Try.prog 37 #[ptr q, .slice A m cap, .int .i64 a, .string s] w (RWriteP w q G st t a s) := by
  cases hT : okT st.n t with
  | false =>
    refine (rWrite_no b q G m cap st A t a s w ht h hT).mono fun e w' ⟨he, hf⟩ => ?_
    have e0 : wrE st t a s = 84 := by unfold wrE; rw [if_pos hT]
    refine ⟨by rw [he, e0], ?_, hf.mono (by simp)⟩
    unfold wrS
    rw [e0, if_neg (by omega)]
    exact h.to hf (by simp) (by simp)
  | true =>
    by_cases hs : 4096 < s.size
    · refine (rWrite_long b q G m cap st A t a s w ht h hT hs).mono fun e w' ⟨he, hf⟩ => ?_
      have e0 : wrE st t a s = 80 := by unfold wrE; rw [if_neg (by rw [hT]; simp), if_pos hs]
      refine ⟨by rw [he, e0], ?_, hf.mono (by simp)⟩
      unfold wrS
      rw [e0, if_neg (by omega)]
      exact h.to hf (by simp) (by simp)
    · refine (rWrite_main b q G m cap st A t a s w ht h hT (by omega) ha hbG).mono fun e w' ⟨he, hm, hf⟩ => ?_
      have e0 : wrE st t a s = thr t 2 a s.size := by unfold wrE; rw [if_neg (by rw [hT]; simp), if_neg hs]
      refine ⟨by rw [he, e0], ?_, hf⟩
      unfold wrS
      rw [e0]
      exact hm
end Go.Proofs.Ytdkihajajdhpnaa

/- The reference's Read. -/
import Derived.Test.YtdkihajajdhpnaaW19
import Derived.Laws.BytesArg
namespace Go.Proofs.Ytdkihajajdhpnaa
open Go.RowKit
set_option linter.unusedVariables false
set_option linter.unusedSimpArgs false
attribute [local go_sem ↓] Go.wp_at_zero Go.wp_at_succ
def RReadP (w : World) (st : St) (t : List Pg) (a n r : Int) (e : Ending) (w' : World) : Prop :=
  e = .returned (.tuple #[.string ⟨(rdR st t a n r).1.toArray⟩, .int .i64 (rdR st t a n r).2]) ∧ Fr [] w w'
set_option maxRecDepth 100000 in
set_option maxHeartbeats 400000 in
theorem rRead_no (b q G m cap : Nat) (st : St) (A : Option Addr) (t : List Pg) (a n r : Int) (w : World) (ht : Tb w b (.slice A m cap) t) (h : RMem w q G st) (hT : okT st.n t = false) :
    Calls Try.prog 36 #[ptr q, .slice A m cap, .int .i64 a, .int .i64 n, .int .i64 r] w fun e w' => e = .returned (.tuple #[.string ⟨#[]⟩, .int .i64 84]) ∧ Fr [] w w' := by
  have Hc := Lib.hid (rCheck_no b q G st.n m cap A t w ht h.hd hT)
  clear h ht hT
  go_enter Try.func36, Try.ntmps36
  go_wp2_with (go_at_call 24; go_must ((with_reducible refine Hc.out.mono ?_); rintro e w1 ⟨rfl, hf1⟩))
  go_ret2
  exact ⟨rfl, hf1⟩
set_option maxRecDepth 100000 in
set_option maxHeartbeats 800000 in
theorem rRead_size (b q G m cap : Nat) (st : St) (A : Option Addr) (t : List Pg) (a n r : Int) (w : World) (ht : Tb w b (.slice A m cap) t) (h : RMem w q G st) (hT : okT st.n t = true) (hs : n < 0 ∨ 4096 < n ∨ (r ≠ 1 ∧ r ≠ 4)) :
    Calls Try.prog 36 #[ptr q, .slice A m cap, .int .i64 a, .int .i64 n, .int .i64 r] w fun e w' => e = .returned (.tuple #[.string ⟨#[]⟩, .int .i64 80]) ∧ Fr [] w w' := by
  have Hc := Lib.hid (rCheck_ok b q G st.n m cap A t w ht h.hd hT)
  clear h ht hT
  by_cases h1 : n < 0
  · clear hs
    go_enter Try.func36, Try.ntmps36
    go_wp2_with (go_at_call 24; go_must ((with_reducible refine Hc.out.mono ?_); rintro e w1 ⟨rfl, hf1⟩))
    go_ret2
    exact ⟨rfl, hf1⟩
  · by_cases h2 : 4096 < n
    · clear hs
      go_enter Try.func36, Try.ntmps36
      go_wp2_with (go_at_call 24; go_must ((with_reducible refine Hc.out.mono ?_); rintro e w1 ⟨rfl, hf1⟩))
      go_ret2
      exact ⟨rfl, hf1⟩
    · have h3 : r ≠ 1 ∧ r ≠ 4 := by omega
      have h4 : (r != 1) = true := by rw [bne_iff_ne]; exact h3.1
      have h5 : (r != 4) = true := by rw [bne_iff_ne]; exact h3.2
      clear hs h3
      go_enter Try.func36, Try.ntmps36
      go_wp2_with (go_at_call 24; go_must ((with_reducible refine Hc.out.mono ?_); rintro e w1 ⟨rfl, hf1⟩))
      go_ret2
      exact ⟨rfl, hf1⟩
/-- The bytes that are read, as values. -/
def rdV (st : St) (t : List Pg) (a : Int) (k : Nat) : List Value := (List.range k).map fun (i : Nat) => bv (st.b (loc t (a + (i : Int))))
theorem rdV_succ (st : St) (t : List Pg) (a : Int) (k : Nat) : rdV st t a (k + 1) = rdV st t a k ++ [bv (st.b (loc t (a + (k : Int))))] := by
  unfold rdV
  rw [List.range_succ, List.map_append]
  rfl
theorem rdV_len (st : St) (t : List Pg) (a : Int) (k : Nat) : (rdV st t a k).length = k := by simp [rdV]
theorem frS_byte {st : St} {f i : Nat} (hi : i < 256) (h : i < (frS st f).size) : (frS st f)[i] = st.b (f * 256 + i) := by
  have h1 := frB_at st f i hi
  have h2 := (List.getElem?_eq_some_iff.1 h1).2
  have h3 : (frS st f)[i] = (frS st f).data[i] := rfl
  rw [h3, ← h2]
  simp [frS]
theorem own_bytes {w : World} {base k c : Nat} {A : Option Addr} {xs : List UInt8} (h : w.ownsRow base 5 1 (.slice A k c) k (xs.map bv)) : (convert 42 9 (.slice A k c)).run Try.prog w = .ok (.string ⟨xs.toArray⟩) w := by
  have hl : xs.length = k := by have := h.1; simpa using this
  rcases h.2 with ⟨h1, h2⟩ | ⟨g, cap, cur, hv, hb, hh, h3, h4, h5, h6⟩
  · subst h2
    have hx : xs = [] := List.eq_nil_of_length_eq_zero hl
    subst hx
    injection h1 with hA hk hc
    subst hA; subst hc
    exact run_convert_bytes_nil w 42 5 Try.underlying42 Try.underlying5 0 0 9 Try.underlying9
  · injection hv with hA _ hc
    subst hA; subst hc
    refine conv_list xs hl (fun j c hj => ?_)
    have hjk : j < k := by have := (List.getElem?_eq_some_iff.1 hj).1; omega
    have h7 : (cur.toList.take (k * 1))[j]? = some (bv c) := by rw [h6, List.getElem?_map, hj]; rfl
    rw [List.getElem?_take, if_pos (by omega)] at h7
    rw [Nat.zero_add, (show Blk w g 5 cur from hh).cell]
    simpa [bv] using h7
set_option maxRecDepth 100000 in
set_option maxHeartbeats 2000000 in
theorem rRead_main (b q G m cap N : Nat) (st : St) (A : Option Addr) (t : List Pg) (a r : Int) (w : World) (ht : Tb w b (.slice A m cap) t) (h : RMem w q G st) (hT : okT st.n t = true) (hn : N ≤ 4096) (hr : r = 1 ∨ r = 4) (ha : a ≤ 9223372036854775807) :
    Calls Try.prog 36 #[ptr q, .slice A m cap, .int .i64 a, .int .i64 N, .int .i64 r] w fun e w' => e = .returned (.tuple #[.string ⟨(if thr t r a N = 0 then (List.range N).map fun (i : Nat) => st.b (loc t (a + (i : Int))) else []).toArray⟩, .int .i64 (thr t r a N)]) ∧ Fr [] w w' := by
  obtain ⟨i0, hi0, hz0, hz1, hz2⟩ := info3 Try.info5
  have hm16 : m ≤ 16 := by have := okT_len hT; have := ht.n_eq; omega
  have Hc := Lib.hid (rCheck_ok b q G st.n m cap A t w ht h.hd hT)
  have Hth := Lib.hid fun W (hf : Fr [] w W) => there_any b m cap A t W a r N (ht.fr hf (by simp)) hm16 hn ha
  have HT := Lib.hid ht
  have HM := Lib.hid h
  have HTT := Lib.hid hT
  have hmt := Lib.hid ht.n_eq
  have d1 : ¬ (N : Int) < 0 := by omega
  have d2 : ¬ (4096 : Int) < (N : Int) := by omega
  have d3 : (r != 1 && r != 4) = false := by rcases hr with rfl | rfl <;> rfl
  have d4 : (r != 1) = true → (r != 4) = false := by rcases hr with rfl | rfl <;> decide
  clear h ht hT
  by_cases h0 : thr t r a N = 0
  · have Hch := Lib.hid (thr_of_zero h0)
    rw [h0] at Hth
    rw [h0, if_pos rfl]
    clear h0
    have hrr : (r = 1 ∧ (r != 1) = false) ∨ (r = 4 ∧ (r != 1) = true ∧ (r != 4) = false) := by rcases hr with rfl | rfl <;> decide
    clear d3 d4
    rcases hrr with ⟨rfl, e1⟩ | ⟨rfl, e1, e2⟩
    all_goals
      clear hr
      go_enter Try.func36, Try.ntmps36
      go_wp2_with (first
        | (go_at_call 24; go_must ((with_reducible refine Hc.out.mono ?_); rintro e w1 ⟨rfl, hf1⟩))
        | (go_at_call 44; go_must ((with_reducible refine (Hth.out _ hf1).mono ?_); rintro e w2 ⟨rfl, hf2⟩))
        | fail)
      have HF2 := Lib.hid (hf1.trans hf2)
      have Hm0 := Lib.hid (World.ownsRow_made (base := w2.heap.size) (e := 5) (size := 1) w2 #[] 0 (Nat.le_refl _) (by simp [maxLen]) (by simp))
      have Hf0 := Lib.hid ((Fr.refl [] w2).alloc (.cells #[] 5))
      clear hf1 hf2
      go_loopg [13, 14] N (fun gg x i wr => ∃ (k : Nat) (B : Option Addr) (c : Nat), k + gg = N ∧ i = .int .i64 k ∧ x = .slice B k c ∧ wr.ownsRow w2.heap.size 5 1 (.slice B k c) k (rdV st t a k) ∧ Fr [] w2 wr)
      case atStart => exact ⟨0, _, _, by omega, rfl, rfl, Hm0.out, Hf0.out⟩
      case round =>
        obtain ⟨k, B, c, hk, rfl, rfl, ho, hf⟩ := hrel
        have Hk := Lib.hid hk
        have Hf := Lib.hid hf
        have HO := Lib.hid ho
        by_cases hlt : k < N
        · have hki : (k : Int) < (N : Int) := by omega
          have hk0 : (0 : Int) ≤ (k : Int) := by omega
          have hc0 := Hch.out 0 (by omega)
          have hck := Hch.out k hlt
          obtain ⟨a', ha'⟩ : ∃ a' : Nat, a = (a' : Int) := Int.eq_ofNat_of_zero_le (by
            apply Int.not_lt.1
            intro hneg
            rw [ch1_neg (by omega)] at hc0
            omega)
          subst ha'
          have e0 : (a' : Int) + ((k : Nat) : Int) = ((a' + k : Nat) : Int) := by omega
          rw [e0] at hck
          have hql : a' + k < t.length * 256 := by
            apply Nat.lt_of_not_le
            intro hge
            rw [ch1_far hge] at hck
            omega
          obtain ⟨pg, hpg⟩ : ∃ p, t[(a' + k) / 256]? = some p := ⟨_, List.getElem?_eq_getElem (by omega)⟩
          have hpok := okT_at HTT.out hpg
          have f0 : 0 ≤ pg.f := by
            rw [ch1_at hpg] at hck
            by_cases hf0 : pg.f < 0
            · rw [if_pos hf0] at hck; omega
            · omega
          have hloc := loc_at hpg
          rw [← e0] at hloc
          obtain ⟨f, hpf⟩ := Int.eq_ofNat_of_zero_le f0
          obtain ⟨off, rfl, hbl, c0, c1⟩ := (HT.out.fr HF2.out (by simp)).at_ hpg
          have hMk := HM.out.to HF2.out (by simp) (by simp)
          obtain ⟨capG, hcG, -, -⟩ := hMk.hd.cell
          have hfn : f < st.n := by omega
          have hcF := hMk.cell hfn
          have hby := frS_byte (st := st) (f := f) (i := (a' + k) % 256) (by omega) (by rw [frS_size]; omega)
          have hsz := frS_size st f
          have hlb : st.b (f * 256 + (a' + k) % 256) = st.b (loc t ((a' : Int) + (k : Int))) := by rw [hloc, hpf]; rfl
          have HV := Lib.hid (rdV_succ st t a' k)
          obtain ⟨x, hx⟩ : ∃ x, st.b (loc t ((a' : Int) + (k : Int))) = x := ⟨_, rfl⟩
          rw [hx] at hlb HV
          obtain ⟨FS, hFS, hsz, z6⟩ : ∃ FS, frS st f = FS ∧ FS.size = 256 ∧ (∀ h : (a' + k) % 256 < FS.size, FS[(a' + k) % 256] = x) := ⟨_, rfl, frS_size _ _, fun _ => hby.trans hlb⟩
          rw [hFS] at hcF
          rw [hpf] at c0
          have hk6 : (a' + k) % 256 < FS.size := by omega
          have z6' := z6 hk6
          have hd0 : (0 : Int) ≤ (a' : Int) + (k : Int) := by omega
          have hd1 : (a' : Int) + (k : Int) < 4096 := by have := okT_len HTT.out; omega
          have hm0 := hmt.out
          have hd2 : ((a' : Int) + (k : Int)) / 256 < (m : Int) := by omega
          have hd3 : (0 : Int) ≤ ((a' : Int) + (k : Int)) / 256 := by omega
          have hd4 : (0 : Int) ≤ ((a' : Int) + (k : Int)) % 256 := by omega
          have hd5 : ((a' : Int) + (k : Int)) % 256 < 256 := by omega
          have hf0 : (0 : Int) ≤ (f : Int) := by omega
          have hf1 : (f : Int) < (st.n : Int) := by omega
          have hdt : (((a' : Int) + (k : Int)) / 256).toNat = (a' + k) / 256 := by omega
          have hmt' : (((a' : Int) + (k : Int)) % 256).toNat = (a' + k) % 256 := by omega
          have HX := Lib.hid (own_fr ho (((Fr.refl [] wr).alloc (.cells #[.int .u8 (x.toNat : Int)] 5)).drew) (by simp))
          have hsw := hf.size
          have Hx := Lib.hid hx
          have Hbk : Hid (((wr.alloc (.cells #[.int .u8 (x.toNat : Int)] 5)).drew).cell? ⟨wr.heap.size, 0, none⟩ = some (.int .u8 (x.toNat : Int))) := Lib.hid ((Blk.new wr 5 #[.int .u8 (x.toNat : Int)]).drew.cell 0)
          have hkk : k + 1 ≤ maxLen := by simp only [maxLen]; omega
          generalize st.n = M at *
          have Kp : Hid (∀ W, Fr [] w2 W → W.cell? ⟨q, 0, none⟩ = some (.slice (some ⟨G, 0, none⟩) M capG) ∧ W.cell? ⟨b, off + (a' + k) / 256 * 2, none⟩ = some (.int .i64 f) ∧ W.cell? ⟨G, f, none⟩ = some (.string FS)) := Lib.hid fun W hW => ⟨hW.cell_some hcG (by simp), hW.cell_some c0 (by simp), hW.cell_some hcF (by simp)⟩
          clear hcG c0 hcF
          obtain ⟨hcG, c0, hcF⟩ := Kp.out wr hf
          clear hk hf ho hc0 hck e0 hql hpg hpok f0 hloc hpf hbl hMk hfn hby hlb hx hFS z6 hm0 c1
          go_wp2_with fail
          have hsum : IntKind.i64.wrap ((a' : Int) + (k : Int)) = (a' : Int) + (k : Int) := IntWalk.i64_in _ (by omega)
          have hdv : IntKind.i64.wrap (((a' : Int) + (k : Int)).tdiv 256) = ((a' : Int) + (k : Int)) / 256 := by rw [Int.tdiv_eq_ediv_of_nonneg hd0]; exact IntWalk.i64_in _ (by omega)
          have hmd : ((a' : Int) + (k : Int)).tmod 256 = ((a' : Int) + (k : Int)) % 256 := Int.tmod_eq_emod_of_nonneg hd0
          go_region_held3 (fun w' => w'.cell? ⟨q, 0, none⟩ = some (.slice (some ⟨G, 0, none⟩) M capG) ∧ w'.cell? ⟨b, off + (a' + k) / 256 * 2, none⟩ = some (.int .i64 f) ∧ w'.cell? ⟨G, f, none⟩ = some (.string FS))
            (first
              | exact ⟨hcG, c0, hcF⟩
              | go_keep
              | exact ll)
            ((refine step_append_lies _ (by rfl) _ _ _ (by rfl) w2.heap.size 5 i0 _ 1 1 Try.underlying42 hi0 hz0 hz1 hz2 rfl (by omega) _ k _ (by rfl) HX.out ⟨wr.heap.size, 0, none⟩ 1 1 [.int .u8 (x.toNat : Int)] (by rfl) (by rfl) (news1 Hbk.out) (by simp [Value.oneCell']) (by omega) hkk (by omega) (by simp; omega) (wr.heap.size + 1) (by simp) ?_; intro gg cc w3 ho3 hg3 hat3 hlt3; have hf3 := (Hf.out.trans (((Fr.refl [] wr).alloc (.cells #[.int .u8 (x.toNat : Int)] 5)).drew)).own HX.out hg3; have ll := Kp.out _ hf3))
          have HO3 := Lib.hid ho3
          have HF3 := Lib.hid hf3
          clear ho3 hg3 hat3 hlt3 hf3
          go_wp2_with fail
          go_roundg (N - (k + 1))
          case measure => have := Hk.out; omega
          case rel => exact ⟨k + 1, _, _, by have := Hk.out; omega, by go_num, rfl, by rw [HV.out]; exact HO3.out, HF3.out⟩
        · have hki : ¬ (k : Int) < (N : Int) := by omega
          obtain rfl : N = k := by omega
          have hcv := own_bytes (xs := (List.range N).map fun (i : Nat) => st.b (loc t (a + (i : Int)))) (by
            rw [List.map_map]
            exact ho)
          obtain ⟨R, hR⟩ : ∃ R, ((List.range N).map fun (i : Nat) => st.b (loc t (a + (i : Int)))).toArray = R := ⟨_, rfl⟩
          rw [hR] at hcv
          have HR := Lib.hid hR
          clear hk hf ho hR
          go_wp2_with fail
          go_ret2
          refine ⟨?_, HF2.out.trans Hf.out⟩
          rw [HR.out]
          rfl
  · rw [if_neg h0]
    have h0b : (thr t r a N != 0) = true := by rw [bne_iff_ne]; exact h0
    generalize thr t r a N = E at *
    have hrr : (r = 1 ∧ (r != 1) = false) ∨ (r = 4 ∧ (r != 1) = true ∧ (r != 4) = false) := by rcases hr with rfl | rfl <;> decide
    clear h0 d3 d4
    rcases hrr with ⟨rfl, e1⟩ | ⟨rfl, e1, e2⟩
    all_goals
      clear hr
      go_enter Try.func36, Try.ntmps36
      go_wp2_with (first
        | (go_at_call 24; go_must ((with_reducible refine Hc.out.mono ?_); rintro e w1 ⟨rfl, hf1⟩))
        | (go_at_call 44; go_must ((with_reducible refine (Hth.out _ hf1).mono ?_); rintro e w2 ⟨rfl, hf2⟩))
        | fail)
      go_ret2
      exact ⟨rfl, hf1.trans hf2⟩
theorem rRead_any (b q G m cap : Nat) (st : St) (A : Option Addr) (t : List Pg) (a n r : Int) (w : World) (ht : Tb w b (.slice A m cap) t) (h : RMem w q G st) (ha : a ≤ 9223372036854775807) :
    Calls Try.prog 36 #[ptr q, .slice A m cap, .int .i64 a, .int .i64 n, .int .i64 r] w (RReadP w st t a n r) := by
  cases hT : okT st.n t with
  | false =>
    refine (rRead_no b q G m cap st A t a n r w ht h hT).mono fun e w' ⟨he, hf⟩ => ⟨?_, hf⟩
    have e0 : rdR st t a n r = ([], 84) := by unfold rdR; rw [if_pos hT]
    rw [he, e0]
  | true =>
    by_cases hs : n < 0 ∨ 4096 < n ∨ (r ≠ 1 ∧ r ≠ 4)
    · refine (rRead_size b q G m cap st A t a n r w ht h hT hs).mono fun e w' ⟨he, hf⟩ => ⟨?_, hf⟩
      have e0 : rdR st t a n r = ([], 80) := by unfold rdR; rw [if_neg (by rw [hT]; simp), if_pos hs]
      rw [he, e0]
    · obtain ⟨k, rfl⟩ := Int.eq_ofNat_of_zero_le (by omega : 0 ≤ n)
      refine (rRead_main b q G m cap k st A t a r w ht h hT (by omega) (by omega) ha).mono fun e w' ⟨he, hf⟩ => ⟨?_, hf⟩
      have e0 : rdR st t a k r = (if thr t r a k = 0 then (List.range k).map fun (i : Nat) => st.b (loc t (a + (i : Int))) else [], thr t r a k) := by unfold rdR; rw [if_neg (by rw [hT]; simp), if_neg hs, Int.toNat_natCast]
      rw [he, e0]
end Go.Proofs.Ytdkihajajdhpnaa

/- MemWords, walked. -/
import Derived.Test.YtdkihajajdhpnaaL1
namespace Go.Proofs.Ytdkihajajdhpnaa
open Go.RowKit
set_option linter.unusedVariables false
set_option linter.unusedSimpArgs false
theorem bits_and_255 (x : Int) : bits .and .i64 x 255 = x % 256 := by
  show IntKind.i64.wrap (((BitVec.ofInt 64 x &&& BitVec.ofInt 64 255).toNat : Nat) : Int) = _
  have h1 : (BitVec.ofInt 64 x &&& BitVec.ofInt 64 255).toNat = (x % 256).toNat := by
    rw [BitVec.toNat_and, BitVec.toNat_ofInt, show (BitVec.ofInt 64 255).toNat = 2 ^ 8 - 1 from rfl, Nat.and_two_pow_sub_one_eq_mod]
    omega
  rw [h1]
  have h2 : 0 ≤ x % 256 := Int.emod_nonneg _ (by omega)
  have h3 : x % 256 < 256 := Int.emod_lt_of_pos _ (by omega)
  rw [Int.toNat_of_nonneg h2]
  exact IntWalk.i64_in _ (by omega)
theorem stE_wr {st : St} {t : List Pg} {a k n : Int} (hk : k = 1 ∨ k = 2 ∨ k = 4) : stE st t a k n = wrE st t a (wordS n k) ∧ stS st t a k n = wrS st t a (wordS n k) := by
  have h : ¬ (k ≠ 1 ∧ k ≠ 2 ∧ k ≠ 4) := by omega
  unfold stE stS
  by_cases hT : okT st.n t = false
  · rw [if_pos hT, if_pos hT]
    unfold wrS wrE
    rw [if_pos hT, if_neg (by omega)]
    exact ⟨rfl, rfl⟩
  · rw [if_neg hT, if_neg hT, if_neg h, if_neg h]
    exact ⟨rfl, rfl⟩
theorem ldR_rd {st : St} {t : List Pg} {a k r : Int} (hk : k = 1 ∨ k = 2 ∨ k = 4) : ldR st t a k r = (((word (rdR st t a k r).1 : Nat) : Int), (rdR st t a k r).2) := by
  unfold ldR
  by_cases hT : okT st.n t = false
  · rw [if_pos hT]
    have : rdR st t a k r = ([], 84) := by unfold rdR; rw [if_pos hT]
    rw [this]
    rfl
  · rw [if_neg hT, if_neg (by omega)]
theorem wrS_n {st : St} {t : List Pg} {a : Int} {s : ByteArray} : (wrS st t a s).n = st.n := by
  unfold wrS
  split <;> rfl
/-- The worlds of the region that stores a word on the one, writes its bytes on the other, and looks at both. -/
structure WW (Wc : World) (p F px Fx : Nat) (st s1 : St) (v1 v2 : Value) (bS bW b1 b2 : Bool) (w' : World) : Prop where
  m : MemAt w' p F (bif bS then s1 else st)
  x : MemAt w' px Fx (bif bW then s1 else st)
  fr : Fr [F, Fx] Wc w'
  f1 : b1 = true → ∃ A c, v1 = .slice A s1.n c ∧ Sl w' 9 1 v1 s1.n (encS (framesL s1 s1.n))
  f2 : b2 = true → ∃ A c, v2 = .slice A s1.n c ∧ Sl w' 9 1 v2 s1.n (encS (framesL s1 s1.n))
theorem MemAt.drew' {w : World} {p F : Nat} {st : St} (h : MemAt w p F st) : MemAt w.drew p F st := h.to ((Fr.refl [] w).drew) (by simp) (by simp)
structure Ne4 (p F px Fx : Nat) : Prop where
  a : p ≠ px
  b : p ≠ Fx
  c : F ≠ px
  d : F ≠ Fx
  e : p ≠ F
  f : px ≠ Fx
theorem MemAt.noStr {w : World} {p F : Nat} {st : St} (h : MemAt w p F st) : ∀ cs, ¬ Blk w F 9 cs := by
  obtain ⟨hd, cs, hb, hc⟩ := h
  intro cs' hb'
  exact absurd (hb.eq hb').1 (by decide)
theorem WW.sl {Wc w' w'' : World} {p F px Fx : Nat} {st s1 : St} {v1 v2 : Value} {bS bW b1 b2 : Bool} (h : WW Wc p F px Fx st s1 v1 v2 bS bW b1 b2 w') {S : List Nat} (hf : Fr S w' w'') (hS : ∀ k, k ∈ S → k = F ∨ k = Fx) {v : Value} {n : Nat} {xs : List Value} (hs : Sl w' 9 1 v n xs) : Sl w'' 9 1 v n xs :=
  hs.fr hf (fun k hk => by rcases hS k hk with rfl | rfl; exact h.m.noStr; exact h.x.noStr)
theorem WW.store {Wc w' w'' : World} {p F px Fx : Nat} {st s1 : St} {v1 v2 : Value} {bW b1 b2 : Bool} (h : WW Wc p F px Fx st s1 v1 v2 false bW b1 b2 w') (hn : Ne4 p F px Fx) (hm : MemAt w'' p F s1) (hf : Fr [F] w' w'') : WW Wc p F px Fx st s1 v1 v2 true bW b1 b2 w'' :=
  ⟨hm, h.x.to hf (by simpa using hn.c.symm) (by simpa using hn.d.symm), h.fr.trans (hf.mono (by simp)), fun hb => by obtain ⟨A, c, e, hs⟩ := h.f1 hb; exact ⟨A, c, e, h.sl hf (by simp) hs⟩, fun hb => by obtain ⟨A, c, e, hs⟩ := h.f2 hb; exact ⟨A, c, e, h.sl hf (by simp) hs⟩⟩
theorem WW.write {Wc w' w'' : World} {p F px Fx : Nat} {st s1 : St} {v1 v2 : Value} {bS b1 b2 : Bool} (h : WW Wc p F px Fx st s1 v1 v2 bS false b1 b2 w') (hn : Ne4 p F px Fx) (hm : MemAt w'' px Fx s1) (hf : Fr [Fx] w' w'') : WW Wc p F px Fx st s1 v1 v2 bS true b1 b2 w'' :=
  ⟨h.m.to hf (by simpa using hn.b) (by simpa using hn.d), hm, h.fr.trans (hf.mono (by simp)), fun hb => by obtain ⟨A, c, e, hs⟩ := h.f1 hb; exact ⟨A, c, e, h.sl hf (by simp) hs⟩, fun hb => by obtain ⟨A, c, e, hs⟩ := h.f2 hb; exact ⟨A, c, e, h.sl hf (by simp) hs⟩⟩
theorem WW.quiet {Wc w' w'' : World} {p F px Fx : Nat} {st s1 : St} {v1 v2 : Value} {bS bW b1 b2 : Bool} (h : WW Wc p F px Fx st s1 v1 v2 bS bW b1 b2 w') (hf : Fr [] w' w'') : WW Wc p F px Fx st s1 v1 v2 bS bW b1 b2 w'' :=
  ⟨h.m.to hf (by simp) (by simp), h.x.to hf (by simp) (by simp), h.fr.trans (hf.mono (by simp)), fun hb => by obtain ⟨A, c, e, hs⟩ := h.f1 hb; exact ⟨A, c, e, h.sl hf (by simp) hs⟩, fun hb => by obtain ⟨A, c, e, hs⟩ := h.f2 hb; exact ⟨A, c, e, h.sl hf (by simp) hs⟩⟩
theorem WW.look1 {Wc w' w'' : World} {p F px Fx : Nat} {st s1 : St} {v1 v1' v2 : Value} {bS bW b2 : Bool} (h : WW Wc p F px Fx st s1 v1 v2 bS bW false b2 w') (hf : Fr [] w' w'') (ho : w''.ownsRow w'.heap.size 9 1 v1' s1.n (encS (framesL s1 s1.n))) : WW Wc p F px Fx st s1 v1' v2 bS bW true b2 w'' := by
  obtain ⟨a1, a2, a3, _, a5⟩ := h.quiet hf
  obtain ⟨A, c, e⟩ := own_shape ho
  exact ⟨a1, a2, a3, fun _ => ⟨A, c, e, Sl.of_own ho⟩, a5⟩
theorem WW.look2 {Wc w' w'' : World} {p F px Fx : Nat} {st s1 : St} {v1 v2 v2' : Value} {bS bW b1 : Bool} (h : WW Wc p F px Fx st s1 v1 v2 bS bW b1 false w') (hf : Fr [] w' w'') (ho : w''.ownsRow w'.heap.size 9 1 v2' s1.n (encS (framesL s1 s1.n))) : WW Wc p F px Fx st s1 v1 v2' bS bW b1 true w'' := by
  obtain ⟨a1, a2, a3, a4, _⟩ := h.quiet hf
  obtain ⟨A, c, e⟩ := own_shape ho
  exact ⟨a1, a2, a3, a4, fun _ => ⟨A, c, e, Sl.of_own ho⟩⟩
set_option maxRecDepth 100000 in
set_option maxHeartbeats 8000000 in
theorem words_ok (n : Nat) (at_ nn : Int) (tb m cap : Nat) (A : Option Addr) (t : List Pg) (w : World) (h1 : 1 ≤ n) (h2 : n ≤ 160) (ht : Tb w tb (.slice A m cap) t) (htb : tb < w.heap.size ∨ tb = 0)
    (hat : -9223372036854775808 ≤ at_ ∧ at_ ≤ 9223372036854775807) :
    Calls Try.prog 8 #[.int .i64 n, .slice A m cap, .agg #[.int .i64 at_, .int .i64 nn]] w fun e w' => e = .returned (.bool true) ∧ Fr [] w w' := by
  obtain ⟨i0, hi0, hz0, hz1, hz2⟩ := info3 Try.info5
  have hb16777216 : bits .and .i64 (nn / 16777216) 255 % 256 = ((byt nn 16777216).toNat : Int) := by rw [bits_and_255, byt_val, Int.emod_emod_of_dvd _ (by omega)]
  have hb65536 : bits .and .i64 (nn / 65536) 255 % 256 = ((byt nn 65536).toNat : Int) := by rw [bits_and_255, byt_val, Int.emod_emod_of_dvd _ (by omega)]
  have hb256 : bits .and .i64 (nn / 256) 255 % 256 = ((byt nn 256).toNat : Int) := by rw [bits_and_255, byt_val, Int.emod_emod_of_dvd _ (by omega)]
  have hb1 : bits .and .i64 (nn) 255 % 256 = ((byt nn 1).toNat : Int) := by rw [bits_and_255, byt_val, Int.ediv_one, Int.emod_emod_of_dvd _ (by omega)]
  have Hn := Lib.hid fun W => New_any n W h1 h2
  have Hx := Lib.hid fun W => fixed_any W
  have Ht := Lib.hid ht
  clear ht
  go_enter Try.func8, Try.ntmps8
  go_wp2_with fail
  go_quiet (fail)
  go_wp2_with (first
    | (go_at_call 10; go_must ((with_reducible refine (Hn.out _).mono ?_); rintro e w1 ⟨p, F, rfl, hm1, hf1, hp1, hF1⟩))
    | (go_at_call 11; go_must ((with_reducible refine (Hx.out _).mono ?_); rintro e w2 ⟨rfl, hf2⟩))
    | fail)
  have HF2 := Lib.hid ((((Fr.refl [] w).alloc (.cells #[.int .i64 at_, .int .i64 nn] 68)).drewN nq).trans (hf1.trans hf2))
  have HM2 := Lib.hid (hm1.to hf2 (by simp) (by simp))
  have hpS : w.heap.size < p := by simp at hp1; omega
  have hFS : w.heap.size < F := by simp at hF1; omega
  clear hm1 hf1 hf2 hp1 hF1
  go_loopg [11] 3 (fun gg i wr => ∃ k : Nat, (gg = 3 ∧ k = 1 ∨ gg = 2 ∧ k = 2 ∨ gg = 1 ∧ k = 4 ∨ gg = 0 ∧ k = 8) ∧ i = .int .i64 k ∧ (∃ st, st.n = n ∧ MemAt wr p F st) ∧ Fr [F] w2 wr)
  case atStart => exact ⟨1, .inl ⟨rfl, rfl⟩, rfl, ⟨_, rfl, HM2.out⟩, Fr.refl _ _⟩
  case round =>
    obtain ⟨k, hk, rfl, ⟨st, hst, hM⟩, hf⟩ := hrel
    have Hk := Lib.hid hk
    by_cases h8 : k = 8
    · subst h8
      have HfE : Hid (Fr [] w wr) := Lib.hid (((HF2.out.mono (by simp)).trans hf).mono (fun k hk hlt => by simp at hk; omega))
      clear hk hst hM hf
      go_wp2_with fail
      go_ret
      exact ⟨rfl, HfE.out⟩
    have hk3 : k = 1 ∨ k = 2 ∨ k = 4 := by omega
    have hk4 : (k : Int) ≤ 4 := by omega
    have hsz := hf.size
    have hsz2 := HF2.out.size
    have hm0 : (wr.alloc (.cells #[] 5)).ownsRow wr.heap.size 5 1 (.slice (some ⟨wr.heap.size, 0, none⟩) 0 0) 0 [] := World.ownsRow_made wr #[] 0 (Nat.le_refl _) (by simp [maxLen]) (by simp)
    have hfw : Fr [F] w wr := (HF2.out.mono (by simp)).trans hf
    have hfw' : Fr [] w wr := hfw.mono (fun k hk hlt => by simp at hk; omega)
    have HM := Lib.hid hM
    have HW := Lib.hid (And.intro hst hfw)
    have Hfo := Lib.hid hf
    have Hf0 := Lib.hid ((Fr.refl [] wr).alloc (.cells #[] 5))
    have Hm0 := Lib.hid hm0
    clear hM hst hfw hf hfw' hk h8 hm0
    go_wp2_with fail
    obtain ⟨wo, rfl⟩ : ∃ wo : World, wo = wr := ⟨_, rfl⟩
    go_loopg [12, 13] k (fun gg x i wq => ∃ (j : Nat) (A0 : Option Addr) (c0 : Nat), j ≤ k ∧ gg = j ∧ i = .int .i64 ((j : Int) - 1) ∧ x = .slice A0 (k - j) c0 ∧ wq.ownsRow wo.heap.size 5 1 (.slice A0 (k - j) c0) (k - j) (((wordB nn k).take (k - j)).map bv) ∧ Fr [] wo wq)
    case atStart => exact ⟨k, _, _, by omega, rfl, by first | rfl | simp, by simp; exact ⟨rfl, rfl⟩, by simpa using Hm0.out, Hf0.out⟩
    case round =>
      obtain ⟨j, A0, c0, hj, hgj, rfl, rfl, ho, hfq⟩ := hrel
      have Hj := Lib.hid hgj
      by_cases hj0 : j = 0
      · subst hj0
        have hlB : (wordB nn k).length = k := by rcases hk3 with rfl | rfl | rfl <;> rfl
        rw [Nat.sub_zero, List.take_of_length_le (by omega)] at ho
        obtain ⟨k', hk'⟩ : ∃ k', k = k' + 1 := ⟨k - 1, by omega⟩
        obtain ⟨g4, c4, e4⟩ : ∃ g c, Value.slice A0 k c0 = .slice (some ⟨g, 0, none⟩) k c := by
          rw [hk'] at ho ⊢
          exact own_succ ho
        injection e4 with e4 _ e5
        subst e4
        subst e5
        clear hk' k'
        have HO := Lib.hid ho
        have Hfq := Lib.hid hfq
        have hMk : MemAt wr p F st := HM.out.to hfq (by simp) (by simp)
        have hWs := hfq.size
        have hpl := HM.out.hd.lt
        have hFl := HM.out.ltF
        have HCl := Lib.hid (Clone_any p F st wr hMk)
        have HMk := Lib.hid hMk
        have HlB := Lib.hid hlB
        simp only [Nat.sub_zero]
        clear ho hfq hMk hgj hj hlB
        go_wp2_with fail
        refine HCl.out.mono ?_
        rintro e W5 ⟨px, Fx, rfl, hmx5, hf5, hpx, hFx⟩
        have HX5 := Lib.hid hmx5
        have HF5 := Lib.hid hf5
        clear hmx5 hf5
        go_wp2_with fail
        have HM5 := Lib.hid (HMk.out.to HF5.out (by simp) (by simp))
        have hz5 := HF5.out.size
        have hNe : Ne4 p F px Fx := ⟨by omega, by omega, by omega, by omega, HM.out.ne, HX5.out.ne⟩
        have HNe := Lib.hid hNe
        obtain ⟨er, her⟩ : ∃ er, wrE st t at_ (wordS nn k) = er := ⟨_, rfl⟩
        obtain ⟨s1, hs1⟩ : ∃ s1, wrS st t at_ (wordS nn k) = s1 := ⟨_, rfl⟩
        have hs1n : s1.n ≤ 4096 := by rw [← hs1, wrS_n, HW.out.1]; omega
        have hTb : ∀ W', Fr [F, Fx] W5 W' → Tb W' tb (.slice A m cap) t ∧ tb < W'.heap.size := by
          intro W' hf'
          have h1 : Fr [F] w W5 := (HW.out.2.trans (Hfq.out.mono (by simp))).trans (HF5.out.mono (by simp))
          have hx := h1.size
          have hy := hf'.size
          refine ⟨(Ht.out.fr h1 (by simp; omega)).fr hf' (by simp; omega), by omega⟩
        have HSt : Hid (∀ W', Fr [F, Fx] W5 W' → MemAt W' p F st → Calls Try.prog 29 #[ptr p, .slice A m cap, .int .i64 at_, .int .i64 k, .int .i64 nn] W' fun e w' => e = .returned (.int .i64 er) ∧ MemAt w' p F s1 ∧ Fr [F] W' w') :=
          Lib.hid fun W' hf' hM' => (Store_any tb p F m cap st A t at_ k nn W' (hTb W' hf').1 hM' (by omega) (hTb W' hf').2).mono fun e w' ⟨h1, h2, h3⟩ => by
            obtain ⟨q1, q2⟩ := stE_wr (st := st) (t := t) (a := at_) (n := nn) (k := k) (by omega)
            rw [q1, her] at h1
            rw [q2, hs1] at h2
            exact ⟨h1, h2, h3⟩
        have HWr : Hid (∀ W', Fr [F, Fx] W5 W' → MemAt W' px Fx st → Calls Try.prog 14 #[ptr px, .slice A m cap, .int .i64 at_, .string (wordS nn k)] W' fun e w' => e = .returned (.int .i64 er) ∧ MemAt w' px Fx s1 ∧ Fr [Fx] W' w') :=
          Lib.hid fun W' hf' hM' => (Write_any tb px Fx m cap st A t at_ (wordS nn k) W' (hTb W' hf').1 hM' (by omega) (hTb W' hf').2).mono fun e w' ⟨h1, h2, h3⟩ => by
            rw [her] at h1
            rw [hs1] at h2
            exact ⟨h1, h2, h3⟩
        have Hcv : Hid (∀ W', Fr [F, Fx] W5 W' → (convert 42 9 (.slice (some ⟨g4, 0, none⟩) k c0)).run Try.prog W' = .ok (.string (wordS nn k)) W') := by
          refine Lib.hid fun W' hf' => conv_list (wordB nn k) HlB.out (fun j c hj => ?_)
          have hc4 := HO.out.cells (g := g4) rfl j (bv c) (by rw [List.getElem?_map, hj]; rfl)
          rw [addr_add] at hc4
          have hgb := (HO.out.lt g4 rfl)
          exact hf'.cell_some (HF5.out.cell_some hc4 (by simp)) (by simp; omega)
        generalize hS4 : wordS nn k = S4 at *
        have HTb := Lib.hid hTb
        have HEnd := Lib.hid (And.intro her (And.intro hs1 hS4))
        clear her hs1 hTb hS4
        --REGION
        have hmx : Try.prog.follows .mixedOrders = true := by kernel_rfl
        refine (wpIn_wide (n := 3)).1 ?_
        refine wpIn_region_inv2 hmx (by kernel_rfl) (fun L' a w' => ∃ v1, ∃ v2, a = { tmps := #[Value.int IntKind.i64 (n : Int), Value.slice A m cap, Value.agg #[Value.int IntKind.i64 at_, Value.int IntKind.i64 nn], undef, undef, Value.pointer (some ⟨w.heap.size, 0, none⟩), u6, Value.int IntKind.i64 at_, Value.int IntKind.i64 nn, ptr p, Value.int IntKind.i64 0, Value.int IntKind.i64 (k : Int), Value.slice (some ⟨g4, 0, none⟩) k c0, Value.int IntKind.i64 (-1), ptr px, u15, u16, u17, u18, u19, u20, Value.pointer (some ⟨w.heap.size, 0, none⟩), Value.int IntKind.i64 at_, Value.pointer (some ⟨w.heap.size, 1, none⟩), Value.int IntKind.i64 nn, Value.tuple #[ptr p, Value.int IntKind.i64 0], Value.int IntKind.i64 (n : Int), Value.tuple #[ptr p, Value.int IntKind.i64 0], ptr p, Value.int IntKind.i64 0, Value.bool true, Value.bool false, Value.bool false, ptr p, Value.bool false, Value.int IntKind.i64 0, Value.bool false, Value.bool false, Value.bool false, ptr p, Value.bool false, Value.int IntKind.i64 (k : Int), Value.bool true, u43, u44, Value.slice (some ⟨wo.heap.size, 0, none⟩) 0 0, Value.int IntKind.i64 (k : Int), Value.int IntKind.i64 ((k : Int) - 1), Value.int IntKind.i64 (-1), Value.bool false, u50, u51, u52, u53, u54, u55, u56, u57, u58, u59, u60, ptr p, ptr px, ptr px, Value.bool false, bif L'.getD 0 false then ptr p else u65, bif L'.getD 1 false then .slice A m cap else u66, bif L'.getD 2 false then .int .i64 at_ else u67, bif L'.getD 3 false then .int .i64 k else u68, bif L'.getD 4 false then .int .i64 nn else u69, bif L'.getD 5 false then .int .i64 er else u70, bif L'.getD 6 false then ptr px else u71, bif L'.getD 7 false then .slice A m cap else u72, bif L'.getD 8 false then .int .i64 at_ else u73, bif L'.getD 9 false then .slice (some ⟨g4, 0, none⟩) k c0 else u74, bif L'.getD 10 false then .string S4 else u75, bif L'.getD 11 false then .int .i64 er else u76, bif L'.getD 12 false then .bool false else u77, bif L'.getD 13 false then .bool false else u78, bif L'.getD 14 false then ptr p else u79, bif L'.getD 15 false then v1 else u80, bif L'.getD 16 false then ptr px else u81, bif L'.getD 17 false then v2 else u82, bif L'.getD 18 false then .bool true else u83, bif L'.getD 19 false then .bool false else u84, bif L'.getD 20 false then .bool false else u85, u86, u87, u88, u89, u90, u91, u92, u93, u94, u95, u96, u97, u98, u99, u100, u101, u102, u103, u104, u105, u106, u107, u108, u109, u110, u111, u112, u113, u114, u115, u116, u117, u118, u119, u120], defers := [] } ∧ WW W5 p F px Fx st s1 v1 v2 (L'.getD 5 false) (L'.getD 11 false) (L'.getD 15 false) (L'.getD 17 false) w') ⟨undef, undef, rfl, ⟨HM5.out.drew', HX5.out.drew', (Fr.refl _ _).drew, (fun h => by cases h), (fun h => by cases h)⟩⟩ ?_ ?_
        · rintro ⟨L'⟩ _ w' i o hs ho hf hp hc ⟨v1, v2, rfl, hR⟩
          match L', hs with
          | [z0, z1, z2, z3, z4, z5, z6, z7, z8, z9, z10, z11, z12, z13, z14, z15, z16, z17, z18, z19, z20], _ =>
          have R : WW W5 p F px Fx st s1 v1 v2 (z5) (z11) (z15) (z17) w' := hR
          clear hR
          match i, ho with
          | 0, ho =>
            injection ho with ho
            subst ho
            clear hc
            simp [Region.binds] at hf hp
            refine wpOpIn_step rfl (fun K' hK' => ?_)
            go_simp
            exact hK' _ _ ⟨v1, v2, by simp [hf, hp], R⟩
          | 1, ho =>
            injection ho with ho
            subst ho
            clear hc
            simp [Region.binds] at hf hp
            refine wpOpIn_step rfl (fun K' hK' => ?_)
            go_simp
            exact hK' _ _ ⟨v1, v2, by simp [hf, hp], R⟩
          | 2, ho =>
            injection ho with ho
            subst ho
            clear hc
            simp [Region.binds] at hf hp
            refine wpOpIn_step rfl (fun K' hK' => ?_)
            go_simp
            exact hK' _ _ ⟨v1, v2, by simp [hf, hp], R⟩
          | 3, ho =>
            injection ho with ho
            subst ho
            clear hc
            simp [Region.binds] at hf hp
            refine wpOpIn_step rfl (fun K' hK' => ?_)
            go_simp
            exact hK' _ _ ⟨v1, v2, by simp [hf, hp], R⟩
          | 4, ho =>
            injection ho with ho
            subst ho
            clear hc
            simp [Region.binds] at hf hp
            refine wpOpIn_step rfl (fun K' hK' => ?_)
            go_simp
            exact hK' _ _ ⟨v1, v2, by simp [hf, hp], R⟩
          | 5, ho =>
            injection ho with ho
            subst ho
            clear hc
            simp [Region.binds] at hf hp
            have R' := R
            rw [hf] at R'
            have hC := HSt.out _ R'.fr R'.m
            clear R
            refine wpOpIn_step rfl (fun K' hK' => ?_)
            go_simp
            refine ⟨trivial, (callsIn_wide.2 hC).mono ?_⟩
            rintro e w2 ⟨rfl, hm2, hf2⟩
            exact hK' _ _ ⟨v1, v2, by simp [hf, hp], R'.store hNe hm2 hf2⟩
          | 6, ho =>
            injection ho with ho
            subst ho
            clear hc
            simp [Region.binds] at hf hp
            refine wpOpIn_step rfl (fun K' hK' => ?_)
            go_simp
            exact hK' _ _ ⟨v1, v2, by simp [hf, hp], R⟩
          | 7, ho =>
            injection ho with ho
            subst ho
            clear hc
            simp [Region.binds] at hf hp
            refine wpOpIn_step rfl (fun K' hK' => ?_)
            go_simp
            exact hK' _ _ ⟨v1, v2, by simp [hf, hp], R⟩
          | 8, ho =>
            injection ho with ho
            subst ho
            clear hc
            simp [Region.binds] at hf hp
            refine wpOpIn_step rfl (fun K' hK' => ?_)
            go_simp
            exact hK' _ _ ⟨v1, v2, by simp [hf, hp], R⟩
          | 9, ho =>
            injection ho with ho
            subst ho
            clear hc
            simp [Region.binds] at hf hp
            refine wpOpIn_step rfl (fun K' hK' => ?_)
            go_simp
            exact hK' _ _ ⟨v1, v2, by simp [hf, hp], R⟩
          | 10, ho =>
            injection ho with ho
            subst ho
            clear hc
            simp [Region.binds] at hf hp
            have hcv := Hcv.out _ R.fr
            refine wpOpIn_step rfl (fun K' hK' => ?_)
            go_simp
            exact hK' _ _ ⟨v1, v2, by simp [hf, hp], R⟩
          | 11, ho =>
            injection ho with ho
            subst ho
            clear hc
            simp [Region.binds] at hf hp
            have R' := R
            rw [hf] at R'
            have hC := HWr.out _ R'.fr R'.x
            clear R
            refine wpOpIn_step rfl (fun K' hK' => ?_)
            go_simp
            refine ⟨trivial, (callsIn_wide.2 hC).mono ?_⟩
            rintro e w2 ⟨rfl, hm2, hf2⟩
            exact hK' _ _ ⟨v1, v2, by simp [hf, hp], R'.write hNe hm2 hf2⟩
          | 12, ho =>
            injection ho with ho
            subst ho
            clear hc
            simp [Region.binds] at hf hp
            refine wpOpIn_step rfl (fun K' hK' => ?_)
            go_simp
            exact hK' _ _ ⟨v1, v2, by simp [hf, hp], R⟩
          | 13, ho =>
            injection ho with ho
            subst ho
            clear hc
            simp [Region.binds] at hf hp
            refine wpOpIn_step rfl (fun K' hK' => ?_)
            go_simp
            exact hK' _ _ ⟨v1, v2, by simp [hf, hp], R⟩
          | 14, ho =>
            injection ho with ho
            subst ho
            clear hc
            simp [Region.binds] at hf hp
            refine wpOpIn_step rfl (fun K' hK' => ?_)
            go_simp
            exact hK' _ _ ⟨v1, v2, by simp [hf, hp], R⟩
          | 15, ho =>
            injection ho with ho
            subst ho
            simp [Region.binds] at hf hp
            obtain ⟨k13, k14⟩ : z13 = true ∧ z14 = true := by simp [hp]
            have k5 : z5 = true := hc.needs (i := 13) (j := 5) (by kernel_rfl) k13
            clear hc
            have R' := R
            rw [hf, k5] at R'
            have hC := frames_any p F s1 _ R'.m
            have Rs := Lib.hid R'
            clear R R'
            refine wpOpIn_step rfl (fun K' hK' => ?_)
            go_simp
            refine ⟨trivial, (callsIn_wide.2 hC).mono ?_⟩
            rintro e w2 ⟨v1', rfl, ho2, hf2⟩
            exact hK' _ _ ⟨v1', v2, by simp [hf, hp, k5], by rw [k5]; exact Rs.out.look1 hf2 ho2⟩
          | 16, ho =>
            injection ho with ho
            subst ho
            clear hc
            simp [Region.binds] at hf hp
            refine wpOpIn_step rfl (fun K' hK' => ?_)
            go_simp
            exact hK' _ _ ⟨v1, v2, by simp [hf, hp], R⟩
          | 17, ho =>
            injection ho with ho
            subst ho
            simp [Region.binds] at hf hp
            obtain ⟨k13, k16⟩ : z13 = true ∧ z16 = true := by simp [hp]
            have k11 : z11 = true := hc.needs (i := 13) (j := 11) (by kernel_rfl) k13
            clear hc
            have R' := R
            rw [hf, k11] at R'
            have hC := frames_any px Fx s1 _ R'.x
            have Rs := Lib.hid R'
            clear R R'
            refine wpOpIn_step rfl (fun K' hK' => ?_)
            go_simp
            refine ⟨trivial, (callsIn_wide.2 hC).mono ?_⟩
            rintro e w2 ⟨v2', rfl, ho2, hf2⟩
            exact hK' _ _ ⟨v1, v2', by simp [hf, hp, k11], by rw [k11]; exact Rs.out.look2 hf2 ho2⟩
          | 18, ho =>
            injection ho with ho
            subst ho
            clear hc
            simp [Region.binds] at hf hp
            obtain ⟨k15, k17⟩ : z15 = true ∧ z17 = true := by simp [hp]
            obtain ⟨A6, c6, rfl, hs6⟩ := R.f1 k15
            obtain ⟨A7, c7, rfl, hs7⟩ := R.f2 k17
            have hC := same_strs _ _ _ s1.n w' hs6 hs7 hs1n
            have Rs := Lib.hid R
            clear R hs6 hs7
            refine wpOpIn_step rfl (fun K' hK' => ?_)
            go_simp
            refine ⟨trivial, (callsIn_wide.2 hC).mono ?_⟩
            rintro e w2 ⟨rfl, hf2⟩
            exact hK' _ _ ⟨.slice A6 s1.n c6, .slice A7 s1.n c7, by simp [hf, hp], Rs.out.quiet hf2⟩
          | 19, ho =>
            injection ho with ho
            subst ho
            clear hc
            simp [Region.binds] at hf hp
            refine wpOpIn_step rfl (fun K' hK' => ?_)
            go_simp
            exact hK' _ _ ⟨v1, v2, by simp [hf, hp], R⟩
          | 20, ho =>
            injection ho with ho
            subst ho
            clear hc
            simp [Region.binds] at hf hp
            refine wpOpIn_step rfl (fun K' hK' => ?_)
            go_simp
            exact hK' _ _ ⟨v1, v2, by simp [hf, hp], R⟩
          | i + 21, ho => simp at ho
        · rintro _ w' ⟨v1, v2, rfl, hR⟩
          have R : WW W5 p F px Fx st s1 v1 v2 (true) (true) (true) (true) w' := hR
          clear hR
          obtain ⟨wi, rfl⟩ : ∃ wi : World, wi = wr := ⟨_, rfl⟩
          have hM' : MemAt w' p F s1 := R.m
          have hf' := R.fr
          obtain ⟨hT1, hT2⟩ := HTb.out w' hf'
          obtain ⟨⟨lr, e2⟩, hrd⟩ : ∃ x, rdR s1 t at_ k 1 = x := ⟨_, rfl⟩
          have hlr : lr.length ≤ 4 := by have := rdR_len (st := s1) (t := t) (a := at_) (r := 1) (k := k) (by omega); rwa [hrd] at this
          have HLd : Hid (Calls Try.prog 16 #[ptr p, .slice A m cap, .int .i64 at_, .int .i64 k, .int .i64 1] w' fun e w'' => e = .returned (.tuple #[.int .i64 (word lr : Nat), .int .i64 e2]) ∧ Fr [] w' w'') := by
            have h := Load_any tb p F m cap s1 A t at_ k 1 w' hT1 hM' (by omega) hT2
            rw [ldR_rd (by omega), hrd] at h
            exact Lib.hid h
          have HRd : Hid (∀ W'', Fr [] w' W'' → Calls Try.prog 18 #[ptr p, .slice A m cap, .int .i64 at_, .int .i64 k, .int .i64 1] W'' fun e w'' => e = .returned (.tuple #[.string ⟨lr.toArray⟩, .int .i64 e2]) ∧ Fr [] W'' w'') :=
            Lib.hid fun W'' hf'' => (Read_any tb p F m cap s1 A t at_ k 1 W'' (hT1.fr hf'' (by simp)) (hM'.to hf'' (by simp) (by simp)) (by omega) (by have := hf''.size; omega)).mono fun e w'' ⟨he, hf⟩ => ⟨by rw [he, hrd], hf⟩
          have hall : Fr [F, Fx] w2 w' := ((((Hfo.out.trans (Hfq.out.mono (by simp))).trans (HF5.out.mono (by simp))).mono (by simp)).trans hf')
          have hz2' := Hfo.out.size
          have hall' : Fr [F] w2 w' := hall.mono (fun k hk hlt => by simp at hk ⊢; omega)
          have HAll := Lib.hid hall'
          have HM' := Lib.hid hM'
          have hs1n' : s1.n = n := by rw [← HEnd.out.2.1, wrS_n]; exact HW.out.1
          have Hs1n := Lib.hid hs1n'
          obtain ⟨SR, hSR⟩ : ∃ SR : ByteArray, SR = ⟨lr.toArray⟩ := ⟨_, rfl⟩
          rw [← hSR] at HRd
          have hSl : SR.data.toList = lr := by rw [hSR]
          obtain ⟨N, hN⟩ : ∃ N, SR.size = N := ⟨_, rfl⟩
          have hlN : lr.length = N := by rw [← hN, ← hSl]; rfl
          rw [hlN] at hlr
          have HSl := Lib.hid hSl
          have HlN := Lib.hid hlN
          clear R hM' hf' hT1 hT2 hrd hall hall' hs1n' hSR hSl hlN hk4
          go_wp2_with (first
            | (go_at_call 16; go_must ((with_reducible refine HLd.out.mono ?_); rintro e w6 ⟨rfl, hf6⟩))
            | (go_at_call 18; go_must ((with_reducible refine (HRd.out _ hf6).mono ?_); rintro e w7 ⟨rfl, hf7⟩))
            | fail)
          have HF7 := Lib.hid (hf6.trans hf7)
          clear hf6 hf7
          go_loopg [19, 20] N (fun gg x i wq => ∃ j : Nat, j + gg = N ∧ i = .int .i64 j ∧ x = .int .i64 (word (lr.take j) : Nat) ∧ wq = w7)
          case atStart => exact ⟨0, by omega, rfl, rfl, rfl⟩
          case round =>
            obtain ⟨j, hj, rfl, rfl, rfl⟩ := hrel
            have Hj := Lib.hid hj
            by_cases hlt : j < N
            · obtain ⟨c, hc⟩ : ∃ c, lr[j]? = some c := ⟨_, List.getElem?_eq_getElem (by have := HlN.out; omega)⟩
              have hks : j < SR.size := by omega
              have c0 : SR[j] = c := by
                have h2 := hc
                rw [← HSl.out] at h2
                have h3 := (List.getElem?_eq_some_iff.1 h2).2
                have h4 : SR[j] = SR.data[j] := rfl
                rw [h4]
                simpa using h3
              have hcl := c.toNat_lt
              have hw := word_lt (lr.take j)
              have hlen : (lr.take j).length ≤ 3 := by rw [List.length_take]; omega
              have hw2 : word (lr.take j) < 16777216 := Nat.lt_of_lt_of_le hw (Nat.pow_le_pow_right (by omega) hlen)
              have hsn : word (lr.take (j + 1)) = 256 * word (lr.take j) + c.toNat := by rw [List.take_add_one, hc]; exact word_snoc _ _
              have Hsn := Lib.hid hsn
              have hki : (j : Int) < (N : Int) := by omega
              clear hw hlen hsn hc hj
              generalize word (lr.take j) = X at *
              go_wp2
              go_roundg (N - (j + 1))
              case measure => have := Hj.out; omega
              case rel => exact ⟨j + 1, by have := Hj.out; omega, by go_num, by rw [Hsn.out]; go_num, rfl⟩
            · have hjN : j = N := by omega
              have hki : ¬ (j : Int) < (N : Int) := by omega
              have hw : word (lr.take j) = word lr := by rw [hjN, ← HlN.out, List.take_length]
              have hM7 := HM'.out.to HF7.out (by simp) (by simp)
              have hF7' := HAll.out.trans (HF7.out.mono (by simp))
              rw [hw]
              have HM7 := Lib.hid hM7
              have HF7' := Lib.hid hF7'
              clear hw hj hjN hM7 hF7'
              rcases hk3 with rfl | rfl | rfl
              · go_wp2
                go_roundg 2
                case measure => have := Hk.out; omega
                case rel => exact ⟨2, .inr (.inl ⟨rfl, rfl⟩), rfl, ⟨s1, Hs1n.out, HM7.out⟩, HF7'.out⟩
              · go_wp2
                go_roundg 1
                case measure => have := Hk.out; omega
                case rel => exact ⟨4, .inr (.inr (.inl ⟨rfl, rfl⟩)), rfl, ⟨s1, Hs1n.out, HM7.out⟩, HF7'.out⟩
              · go_wp2
                go_roundg 0
                case measure => have := Hk.out; omega
                case rel => exact ⟨8, .inr (.inr (.inr ⟨rfl, rfl⟩)), rfl, ⟨s1, Hs1n.out, HM7.out⟩, HF7'.out⟩
      · have hcs : (k = 1 ∧ j = 1) ∨ (k = 2 ∧ j = 1) ∨ (k = 2 ∧ j = 2) ∨ (k = 4 ∧ j = 1) ∨ (k = 4 ∧ j = 2) ∨ (k = 4 ∧ j = 3) ∨ (k = 4 ∧ j = 4) := by omega
        clear hgj hj0 hk3 hj
        rcases hcs with ⟨rfl, rfl⟩ | ⟨rfl, rfl⟩ | ⟨rfl, rfl⟩ | ⟨rfl, rfl⟩ | ⟨rfl, rfl⟩ | ⟨rfl, rfl⟩ | ⟨rfl, rfl⟩
        -- width 1, 1 to go
        · have hX := ho.alloc (.cells #[.int .u8 ((byt nn 1).toNat : Int)] 5)
          have hbk : (wr.alloc (.cells #[.int .u8 ((byt nn 1).toNat : Int)] 5)).cell? ⟨wr.heap.size, 0, none⟩ = some (.int .u8 ((byt nn 1).toNat : Int)) := (Blk.new wr 5 _).cell 0
          have HX := Lib.hid hX
          have hfa := hfq.alloc (.cells #[.int .u8 ((byt nn 1).toNat : Int)] 5)
          have hzz := hfq.size
          clear ho hX
          go_wp2_with (at_builtin; go_must (refine wpList_append_own _ rfl (.tmp 52) (.tmp 59) 42 rfl wo.heap.size 5 i0 (.int .u8 0) 1 1 Try.underlying42 hi0 hz0 hz1 hz2 rfl (by decide) _ 0 _ rfl HX.out ⟨wr.heap.size, 0, none⟩ 1 1 [.int .u8 ((byt nn 1).toNat : Int)] rfl rfl (news1 hbk) (by simp [Value.oneCell']) (by simp [maxLen]) (by omega) (by simp; omega) ?_; intro x1 W1 ho1 hg1 _; obtain ⟨A1, c1, rfl⟩ := own_shape ho1; have hff1 := hfa.own HX.out hg1))
          go_roundg 0
          case measure => have := Hj.out; omega
          case rel => exact ⟨0, A1, c1, by omega, rfl, by simp, by simp, by simpa [wordB, bv] using ho1, hff1⟩
        -- width 2, 1 to go
        · have hX := ho.alloc (.cells #[.int .u8 ((byt nn 1).toNat : Int)] 5)
          have hbk : (wr.alloc (.cells #[.int .u8 ((byt nn 1).toNat : Int)] 5)).cell? ⟨wr.heap.size, 0, none⟩ = some (.int .u8 ((byt nn 1).toNat : Int)) := (Blk.new wr 5 _).cell 0
          have HX := Lib.hid hX
          have hfa := hfq.alloc (.cells #[.int .u8 ((byt nn 1).toNat : Int)] 5)
          have hzz := hfq.size
          clear ho hX
          go_wp2_with (at_builtin; go_must (refine wpList_append_own _ rfl (.tmp 52) (.tmp 59) 42 rfl wo.heap.size 5 i0 (.int .u8 0) 1 1 Try.underlying42 hi0 hz0 hz1 hz2 rfl (by decide) _ 1 _ rfl HX.out ⟨wr.heap.size, 0, none⟩ 1 1 [.int .u8 ((byt nn 1).toNat : Int)] rfl rfl (news1 hbk) (by simp [Value.oneCell']) (by simp [maxLen]) (by omega) (by simp; omega) ?_; intro x1 W1 ho1 hg1 _; obtain ⟨A1, c1, rfl⟩ := own_shape ho1; have hff1 := hfa.own HX.out hg1))
          go_roundg 0
          case measure => have := Hj.out; omega
          case rel => exact ⟨0, A1, c1, by omega, rfl, by simp, by simp, by simpa [wordB, bv] using ho1, hff1⟩
        -- width 2, 2 to go
        · have hX := ho.alloc (.cells #[.int .u8 ((byt nn 256).toNat : Int)] 5)
          have hbk : (wr.alloc (.cells #[.int .u8 ((byt nn 256).toNat : Int)] 5)).cell? ⟨wr.heap.size, 0, none⟩ = some (.int .u8 ((byt nn 256).toNat : Int)) := (Blk.new wr 5 _).cell 0
          have HX := Lib.hid hX
          have hfa := hfq.alloc (.cells #[.int .u8 ((byt nn 256).toNat : Int)] 5)
          have hzz := hfq.size
          clear ho hX
          go_wp2_with (at_builtin; go_must (refine wpList_append_own _ rfl (.tmp 52) (.tmp 59) 42 rfl wo.heap.size 5 i0 (.int .u8 0) 1 1 Try.underlying42 hi0 hz0 hz1 hz2 rfl (by decide) _ 0 _ rfl HX.out ⟨wr.heap.size, 0, none⟩ 1 1 [.int .u8 ((byt nn 256).toNat : Int)] rfl rfl (news1 hbk) (by simp [Value.oneCell']) (by simp [maxLen]) (by omega) (by simp; omega) ?_; intro x1 W1 ho1 hg1 _; obtain ⟨A1, c1, rfl⟩ := own_shape ho1; have hff1 := hfa.own HX.out hg1))
          go_roundg 1
          case measure => have := Hj.out; omega
          case rel => exact ⟨1, A1, c1, by omega, rfl, by simp, by simp, by simpa [wordB, bv] using ho1, hff1⟩
        -- width 4, 1 to go
        · have hX := ho.alloc (.cells #[.int .u8 ((byt nn 1).toNat : Int)] 5)
          have hbk : (wr.alloc (.cells #[.int .u8 ((byt nn 1).toNat : Int)] 5)).cell? ⟨wr.heap.size, 0, none⟩ = some (.int .u8 ((byt nn 1).toNat : Int)) := (Blk.new wr 5 _).cell 0
          have HX := Lib.hid hX
          have hfa := hfq.alloc (.cells #[.int .u8 ((byt nn 1).toNat : Int)] 5)
          have hzz := hfq.size
          clear ho hX
          go_wp2_with (at_builtin; go_must (refine wpList_append_own _ rfl (.tmp 52) (.tmp 59) 42 rfl wo.heap.size 5 i0 (.int .u8 0) 1 1 Try.underlying42 hi0 hz0 hz1 hz2 rfl (by decide) _ 3 _ rfl HX.out ⟨wr.heap.size, 0, none⟩ 1 1 [.int .u8 ((byt nn 1).toNat : Int)] rfl rfl (news1 hbk) (by simp [Value.oneCell']) (by simp [maxLen]) (by omega) (by simp; omega) ?_; intro x1 W1 ho1 hg1 _; obtain ⟨A1, c1, rfl⟩ := own_shape ho1; have hff1 := hfa.own HX.out hg1))
          go_roundg 0
          case measure => have := Hj.out; omega
          case rel => exact ⟨0, A1, c1, by omega, rfl, by simp, by simp, by simpa [wordB, bv] using ho1, hff1⟩
        -- width 4, 2 to go
        · have hX := ho.alloc (.cells #[.int .u8 ((byt nn 256).toNat : Int)] 5)
          have hbk : (wr.alloc (.cells #[.int .u8 ((byt nn 256).toNat : Int)] 5)).cell? ⟨wr.heap.size, 0, none⟩ = some (.int .u8 ((byt nn 256).toNat : Int)) := (Blk.new wr 5 _).cell 0
          have HX := Lib.hid hX
          have hfa := hfq.alloc (.cells #[.int .u8 ((byt nn 256).toNat : Int)] 5)
          have hzz := hfq.size
          clear ho hX
          go_wp2_with (at_builtin; go_must (refine wpList_append_own _ rfl (.tmp 52) (.tmp 59) 42 rfl wo.heap.size 5 i0 (.int .u8 0) 1 1 Try.underlying42 hi0 hz0 hz1 hz2 rfl (by decide) _ 2 _ rfl HX.out ⟨wr.heap.size, 0, none⟩ 1 1 [.int .u8 ((byt nn 256).toNat : Int)] rfl rfl (news1 hbk) (by simp [Value.oneCell']) (by simp [maxLen]) (by omega) (by simp; omega) ?_; intro x1 W1 ho1 hg1 _; obtain ⟨A1, c1, rfl⟩ := own_shape ho1; have hff1 := hfa.own HX.out hg1))
          go_roundg 1
          case measure => have := Hj.out; omega
          case rel => exact ⟨1, A1, c1, by omega, rfl, by simp, by simp, by simpa [wordB, bv] using ho1, hff1⟩
        -- width 4, 3 to go
        · have hX := ho.alloc (.cells #[.int .u8 ((byt nn 65536).toNat : Int)] 5)
          have hbk : (wr.alloc (.cells #[.int .u8 ((byt nn 65536).toNat : Int)] 5)).cell? ⟨wr.heap.size, 0, none⟩ = some (.int .u8 ((byt nn 65536).toNat : Int)) := (Blk.new wr 5 _).cell 0
          have HX := Lib.hid hX
          have hfa := hfq.alloc (.cells #[.int .u8 ((byt nn 65536).toNat : Int)] 5)
          have hzz := hfq.size
          clear ho hX
          go_wp2_with (at_builtin; go_must (refine wpList_append_own _ rfl (.tmp 52) (.tmp 59) 42 rfl wo.heap.size 5 i0 (.int .u8 0) 1 1 Try.underlying42 hi0 hz0 hz1 hz2 rfl (by decide) _ 1 _ rfl HX.out ⟨wr.heap.size, 0, none⟩ 1 1 [.int .u8 ((byt nn 65536).toNat : Int)] rfl rfl (news1 hbk) (by simp [Value.oneCell']) (by simp [maxLen]) (by omega) (by simp; omega) ?_; intro x1 W1 ho1 hg1 _; obtain ⟨A1, c1, rfl⟩ := own_shape ho1; have hff1 := hfa.own HX.out hg1))
          go_roundg 2
          case measure => have := Hj.out; omega
          case rel => exact ⟨2, A1, c1, by omega, rfl, by simp, by simp, by simpa [wordB, bv] using ho1, hff1⟩
        -- width 4, 4 to go
        · have hX := ho.alloc (.cells #[.int .u8 ((byt nn 16777216).toNat : Int)] 5)
          have hbk : (wr.alloc (.cells #[.int .u8 ((byt nn 16777216).toNat : Int)] 5)).cell? ⟨wr.heap.size, 0, none⟩ = some (.int .u8 ((byt nn 16777216).toNat : Int)) := (Blk.new wr 5 _).cell 0
          have HX := Lib.hid hX
          have hfa := hfq.alloc (.cells #[.int .u8 ((byt nn 16777216).toNat : Int)] 5)
          have hzz := hfq.size
          clear ho hX
          go_wp2_with (at_builtin; go_must (refine wpList_append_own _ rfl (.tmp 52) (.tmp 59) 42 rfl wo.heap.size 5 i0 (.int .u8 0) 1 1 Try.underlying42 hi0 hz0 hz1 hz2 rfl (by decide) _ 0 _ rfl HX.out ⟨wr.heap.size, 0, none⟩ 1 1 [.int .u8 ((byt nn 16777216).toNat : Int)] rfl rfl (news1 hbk) (by simp [Value.oneCell']) (by simp [maxLen]) (by omega) (by simp; omega) ?_; intro x1 W1 ho1 hg1 _; obtain ⟨A1, c1, rfl⟩ := own_shape ho1; have hff1 := hfa.own HX.out hg1))
          go_roundg 3
          case measure => have := Hj.out; omega
          case rel => exact ⟨3, A1, c1, by omega, rfl, by simp, by simp, by simpa [wordB, bv] using ho1, hff1⟩
set_option maxRecDepth 100000 in
set_option maxHeartbeats 1000000 in
theorem words_bad (many c0 c1 : Int) (w : World) (h : many < 1 ∨ 160 < many) (A : Option Addr) (m cap : Nat) :
    Calls Try.prog 8 #[.int .i64 many, .slice A m cap, .agg #[.int .i64 c0, .int .i64 c1]] w fun e w' => e = .returned (.bool true) ∧ Fr [] w w' := by
  have Hn := Lib.hid fun W => New_bad many W h
  have Hx := Lib.hid fun W => fixed_any W
  clear h
  go_enter Try.func8, Try.ntmps8
  go_wp2_with fail
  go_quiet (fail)
  go_wp2_with (first
    | (go_at_call 10; go_must ((with_reducible refine (Hn.out _).mono ?_); rintro e w1 ⟨rfl, rfl⟩))
    | (go_at_call 11; go_must ((with_reducible refine (Hx.out _).mono ?_); rintro e w1 ⟨rfl, hf1⟩))
    | fail)
  go_ret
  exact ⟨rfl, (((Fr.refl [] w).alloc _).drewN _).trans hf1⟩
theorem words_walk (many at_ nn : Int) (tb m cap : Nat) (A : Option Addr) (t : List Pg) (w : World) (ht : Tb w tb (.slice A m cap) t) (htb : tb < w.heap.size ∨ tb = 0)
    (hat : -9223372036854775808 ≤ at_ ∧ at_ ≤ 9223372036854775807) :
    Calls Try.prog 8 #[.int .i64 many, .slice A m cap, .agg #[.int .i64 at_, .int .i64 nn]] w fun e w' => e = .returned (.bool true) ∧ Fr [] w w' := by
  by_cases h : many < 1 ∨ 160 < many
  · exact words_bad many at_ nn w h A m cap
  · obtain ⟨n, rfl⟩ := Int.eq_ofNat_of_zero_le (by omega : 0 ≤ many)
    exact words_ok n at_ nn tb m cap A t w (by omega) (by omega) ht htb hat
end Go.Proofs.Ytdkihajajdhpnaa

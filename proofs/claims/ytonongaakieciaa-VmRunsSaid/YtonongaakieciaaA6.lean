/- VmRuns, walked. -/
import Derived.Test.YtonongaakieciaaM12
import Derived.Test.YtonongaakieciaaV16
import Derived.Test.YtonongaakieciaaA3
import Derived.Test.YtonongaakieciaaRd2
import Derived.Deep.DeepCutAuto
namespace Go.Proofs.Ytonongaakieciaa
open Go.RowKit
set_option linter.unusedVariables false
set_option linter.unusedSimpArgs false
set_option maxRecDepth 100000
section
variable {w W W' : World} {v p F y q G b mm cap : Nat} {A : Option Addr} {t : List Pg} {x X : Vm} {st T : St} {ek en : Int} {z4 z9 z10 z11 z12 z13 : Bool} {g1 g2 : Nat}
/-- The world within the region where both step: which operations have run. -/
structure RuR (w : World) (v p F y q G b mm cap : Nat) (A : Option Addr) (t : List Pg) (x X : Vm) (st T : St) (ek en : Int) (z4 z9 z10 z11 z12 z13 : Bool) (g1 g2 : Nat) (W : World) : Prop where
  d : Pr w W v p F y q G b mm cap A t (bif z4 then X else x) (bif z4 then T else st) (bif z9 then X else x) (bif z9 then T else st)
  b1 : z10 = true → Blk W g1 65 (bif z12 then #[.int .i64 ek, .int .i64 en] else #[.int .i64 0, .int .i64 0]) ∧ w.heap.size ≤ g1 ∧ b ≠ g1
  b2 : z11 = true → Blk W g2 65 (bif z13 then #[.int .i64 ek, .int .i64 en] else #[.int .i64 0, .int .i64 0]) ∧ w.heap.size ≤ g2 ∧ b ≠ g2
  ne : z10 = true → z11 = true → g1 ≠ g2
theorem Pr.set_ {x' : Vm} {st' : St} (h : Pr w W v p F y q G b mm cap A t x st x' st') {g : Nat} {cs : Array Value} (hb : Blk W g 65 cs) (hg : w.heap.size ≤ g) (htb : b ≠ g) (i : Nat) (u : Value) : Pr w (W.setCell ⟨g, i, none⟩ u) v p F y q G b mm cap A t x st x' st' := by
  have hf : Fr [g] W (W.setCell ⟨g, i, none⟩ u) := (Fr.refl [g] W).setCell (p := ⟨g, i, none⟩) (.inl (by simp)) u
  obtain ⟨n1, n2, n3, n4, n5, n6⟩ := h.ev hb
  exact ⟨h.vm.fr hf (by simpa using n1.symm), h.mem.to hf (by simpa using n5.symm) (by simpa using n2.symm), h.rv.fr hf (by simpa using n3.symm), h.rm.to hf (by simpa using n6.symm) (by simpa using n4.symm), h.tb.fr hf (by simpa using htb), Nat.lt_of_lt_of_le h.lt hf.size, h.nb, h.fr.step hf (fun k hk => by simp at hk; subst hk; exact .inr hg), h.g⟩
theorem RuR.one (h : RuR w v p F y q G b mm cap A t x X st T ek en false z9 z10 z11 z12 z13 g1 g2 W) (hs : stepV x st t = ((ek, en), X, T)) : Calls Try.prog 34 #[ptr v, ptr p, .slice A mm cap] W fun e w' => e = .returned (.agg #[.int .i64 ek, .int .i64 en]) ∧ RuR w v p F y q G b mm cap A t x X st T ek en true z9 z10 z11 z12 z13 g1 g2 w' := by
  refine (h.d.stepP hs).mono fun e w' ⟨he, hd, hf⟩ => ⟨he, hd, fun hz => ?_, fun hz => ?_, h.ne⟩
  · obtain ⟨hb, hg, ht⟩ := h.b1 hz
    obtain ⟨n1, n2, -⟩ := h.d.ev hb
    exact ⟨hb.fr hf (by simp [n1, n2]), hg, ht⟩
  · obtain ⟨hb, hg, ht⟩ := h.b2 hz
    obtain ⟨n1, n2, -⟩ := h.d.ev hb
    exact ⟨hb.fr hf (by simp [n1, n2]), hg, ht⟩
theorem RuR.two (h : RuR w v p F y q G b mm cap A t x X st T ek en z4 false z10 z11 z12 z13 g1 g2 W) (hs : stepV x st t = ((ek, en), X, T)) : Calls Try.prog 44 #[ptr y, ptr q, .slice A mm cap] W fun e w' => e = .returned (.agg #[.int .i64 ek, .int .i64 en]) ∧ RuR w v p F y q G b mm cap A t x X st T ek en z4 true z10 z11 z12 z13 g1 g2 w' := by
  refine (h.d.stepR hs).mono fun e w' ⟨he, hd, hf⟩ => ⟨he, hd, fun hz => ?_, fun hz => ?_, h.ne⟩
  · obtain ⟨hb, hg, ht⟩ := h.b1 hz
    obtain ⟨-, -, n1, n2, -⟩ := h.d.ev hb
    exact ⟨hb.fr hf (by simp [n1, n2]), hg, ht⟩
  · obtain ⟨hb, hg, ht⟩ := h.b2 hz
    obtain ⟨-, -, n1, n2, -⟩ := h.d.ev hb
    exact ⟨hb.fr hf (by simp [n1, n2]), hg, ht⟩
theorem RuR.al1 (h : RuR w v p F y q G b mm cap A t x X st T ek en z4 z9 false z11 false z13 g1 g2 W) : RuR w v p F y q G b mm cap A t x X st T ek en z4 z9 true z11 false z13 W.heap.size g2 (W.alloc (.cells #[.int .i64 0, .int .i64 0] 65)) := by
  refine ⟨h.d.to ((Fr.refl [] W).alloc _), fun _ => ⟨Blk.new W 65 _, h.d.fr.size, Nat.ne_of_lt h.d.lt⟩, fun hz => ?_, fun _ hz => ?_⟩
  · obtain ⟨hb, hg, ht⟩ := h.b2 hz
    exact ⟨hb.alloc _, hg, ht⟩
  · exact (Nat.ne_of_lt (h.b2 hz).1.lt).symm
theorem RuR.al2 (h : RuR w v p F y q G b mm cap A t x X st T ek en z4 z9 z10 false z12 false g1 g2 W) : RuR w v p F y q G b mm cap A t x X st T ek en z4 z9 z10 true z12 false g1 W.heap.size (W.alloc (.cells #[.int .i64 0, .int .i64 0] 65)) := by
  refine ⟨h.d.to ((Fr.refl [] W).alloc _), fun hz => ?_, fun _ => ⟨Blk.new W 65 _, h.d.fr.size, Nat.ne_of_lt h.d.lt⟩, fun hz _ => ?_⟩
  · obtain ⟨hb, hg, ht⟩ := h.b1 hz
    exact ⟨hb.alloc _, hg, ht⟩
  · exact Nat.ne_of_lt (h.b1 hz).1.lt
theorem RuR.st1 (h : RuR w v p F y q G b mm cap A t x X st T ek en z4 z9 true z11 false z13 g1 g2 W) : RuR w v p F y q G b mm cap A t x X st T ek en z4 z9 true z11 true z13 g1 g2 ((W.setCell ⟨g1, 0, none⟩ (.int .i64 ek)).setCell ⟨g1, 1, none⟩ (.int .i64 en)) := by
  obtain ⟨hb, hg, ht⟩ := h.b1 rfl
  have hb1 := hb.set_ 0 (.int .i64 ek)
  refine ⟨(h.d.set_ hb hg ht 0 _).set_ hb1 hg ht 1 _, fun _ => ⟨hb1.set_ 1 (.int .i64 en), hg, ht⟩, fun hz => ?_, h.ne⟩
  obtain ⟨hb', hg', ht'⟩ := h.b2 hz
  have hn := h.ne rfl hz
  exact ⟨(hb'.far (p := ⟨g1, 0, none⟩) (fun e => hn e.symm) _).far (p := ⟨g1, 1, none⟩) (fun e => hn e.symm) _, hg', ht'⟩
theorem RuR.st2 (h : RuR w v p F y q G b mm cap A t x X st T ek en z4 z9 z10 true z12 false g1 g2 W) : RuR w v p F y q G b mm cap A t x X st T ek en z4 z9 z10 true z12 true g1 g2 ((W.setCell ⟨g2, 0, none⟩ (.int .i64 ek)).setCell ⟨g2, 1, none⟩ (.int .i64 en)) := by
  obtain ⟨hb, hg, ht⟩ := h.b2 rfl
  have hb1 := hb.set_ 0 (.int .i64 ek)
  refine ⟨(h.d.set_ hb hg ht 0 _).set_ hb1 hg ht 1 _, fun hz => ?_, fun _ => ⟨hb1.set_ 1 (.int .i64 en), hg, ht⟩, h.ne⟩
  obtain ⟨hb', hg', ht'⟩ := h.b1 hz
  have hn := h.ne hz rfl
  exact ⟨(hb'.far (p := ⟨g2, 0, none⟩) hn _).far (p := ⟨g2, 1, none⟩) hn _, hg', ht'⟩
end
set_option maxHeartbeats 4000000 in
theorem runs_bad (n : Int) (LA : Option Addr) (nl cl : Nat) (TA : Option Addr) (nt ct : Nat) (s : Int) (RA : Option Addr) (na ca : Nat) (w : World) (h : n < 1 ∨ 160 < n) :
    Calls Try.prog 10 #[.agg #[.int .i64 n, .slice LA nl cl, .slice TA nt ct], .agg #[.int .i64 s, .slice RA na ca]] w fun e w' => e = .returned (.bool true) ∧ Fr [] w w' := by
  have H0 := Lib.hid (((Fr.refl [] w).alloc (.cells #[.int .i64 n, .slice LA nl cl, .slice TA nt ct] 72)).alloc (.cells #[.int .i64 s, .slice RA na ca] 75))
  have HB := Lib.hid ((Blk.new w 72 #[.int .i64 n, .slice LA nl cl, .slice TA nt ct]).alloc (.cells #[.int .i64 s, .slice RA na ca] 75))
  generalize hW0 : (w.alloc (.cells #[.int .i64 n, .slice LA nl cl, .slice TA nt ct] 72)).alloc (.cells #[.int .i64 s, .slice RA na ca] 75) = W0 at *
  have HK := Lib.hid (fun W (hf : Fr [] W0 W) => (show W.cell? ⟨w.heap.size, 0, none⟩ = some (.int .i64 n) ∧ W.cell? ⟨w.heap.size, 1, none⟩ = some (.slice LA nl cl) ∧ W.cell? ⟨w.heap.size, 2, none⟩ = some (.slice TA nt ct) ∧ w.heap.size < W.heap.size from ⟨(HB.out.fr hf (by simp)).cell 0, (HB.out.fr hf (by simp)).cell 1, (HB.out.fr hf (by simp)).cell 2, (HB.out.fr hf (by simp)).lt⟩))
  have H1 := Lib.hid (fun W => made_bad n LA nl cl TA nt ct W h)
  have H2 := Lib.hid (fun W => rNew_bad n W h)
  have HV := Lib.hid vNew_any
  have HFx := Lib.hid lFixed_any
  obtain ⟨k0, k1, k2, k3⟩ := HK.out W0 (Fr.refl _ _)
  clear h
  go_enter Try.func10, Try.ntmps10
  go_wp2_with (first
    | (go_at_call 40; refine (H1.out _).mono ?_; clear H1; rintro e w1 ⟨rfl, hf⟩; have HF1 := Lib.hid hf; clear hf k0 k1 k2 k3)
    | (go_at_call 30; refine (HV.out _).mono ?_; clear HV; rintro e w4 ⟨rfl, -, hf⟩; have HF4 := Lib.hid (HF1.out.trans hf); clear hf HF1; obtain ⟨a0, a1, a2, a3⟩ := HK.out _ HF4.out)
    | (go_at_call 41; refine (H2.out _).mono ?_; rintro e w5 ⟨rfl, rfl⟩)
    | (go_at_call 37; refine (HFx.out _).mono ?_; rintro e w6 ⟨rfl, hf⟩; have HF6 := Lib.hid ((H0.out.trans (HF4.out.alloc _)).trans hf); clear hf)
    | fail)
  go_ret
  exact ⟨rfl, HF6.out⟩
set_option maxHeartbeats 8000000 in
theorem runs_ok (n : Nat) (h1 : 1 ≤ n) (h2 : n ≤ 160) (LA : Option Addr) (nl cl : Nat) (l : Nat → ByteArray) (TA : Option Addr) (nt ct b : Nat) (t : List Pg) (s : Int) (RA : Option Addr) (na ca : Nat) (B : Nat → Option Addr) (kk cc : Nat → Nat) (ll : Nat → Nat → Int) (w : World) (hl : PrZ w LA nl l) (ht : Tb w b (.slice TA nt ct) t) (hb : b < w.heap.size ∨ b = 0) (hr : NumsS w RA na B kk cc ll) :
    Calls Try.prog 10 #[.agg #[.int .i64 (n : Int), .slice LA nl cl, .slice TA nt ct], .agg #[.int .i64 s, .slice RA na ca]] w fun e w' => e = .returned (.bool true) ∧ Fr [] w w' := by
  have H0 := Lib.hid (((Fr.refl [] w).alloc (.cells #[.int .i64 (n : Int), .slice LA nl cl, .slice TA nt ct] 72)).alloc (.cells #[.int .i64 s, .slice RA na ca] 75))
  have HB := Lib.hid ((Blk.new w 72 #[.int .i64 (n : Int), .slice LA nl cl, .slice TA nt ct]).alloc (.cells #[.int .i64 s, .slice RA na ca] 75))
  have HB2 := Lib.hid (Blk.new' (w := w.alloc (.cells #[.int .i64 (n : Int), .slice LA nl cl, .slice TA nt ct] 72)) (t := 75) (cs := #[.int .i64 s, .slice RA na ca]) (g := w.heap.size + 1) (by simp))
  generalize hW0 : (w.alloc (.cells #[.int .i64 (n : Int), .slice LA nl cl, .slice TA nt ct] 72)).alloc (.cells #[.int .i64 s, .slice RA na ca] 75) = W0 at *
  have hz0 := HB2.out.lt
  have HK := Lib.hid (fun W (hf : Fr [] W0 W) => (show W.cell? ⟨w.heap.size, 0, none⟩ = some (.int .i64 (n : Int)) ∧ W.cell? ⟨w.heap.size, 2, none⟩ = some (.slice TA nt ct) ∧ W.cell? ⟨w.heap.size + 1, 0, none⟩ = some (.int .i64 s) ∧ W.cell? ⟨w.heap.size + 1, 1, none⟩ = some (.slice RA na ca) from ⟨(HB.out.fr hf (by simp)).cell 0, (HB.out.fr hf (by simp)).cell 2, (HB2.out.fr hf (by simp)).cell 0, (HB2.out.fr hf (by simp)).cell 1⟩))
  have H1 := Lib.hid (made_ok n LA nl cl l TA nt ct W0 h1 h2 (hl.fr H0.out))
  unfold MadeP at H1
  have HV := Lib.hid vNew_any
  have HFx := Lib.hid lFixed_any
  obtain ⟨N, eN, hN⟩ : ∃ N : Nat, s % 400 = (N : Int) ∧ N < 400 := ⟨(s % 400).toNat, by omega, by omega⟩
  have HPl := Lib.hid (fun W => (show Calls Try.prog 39 #[.int .i64 s, .int .i64 400] W fun e w' => e = .returned (.int .i64 (N : Int)) ∧ W = w' by have := lPlace_any s 400 (by decide) (by decide) W; rwa [eN] at this))
  have HD : Hid (∀ W1 W3 p F q G v y, Mms W0 W1 p F q G (layN n l nl) (layN n l nl) → VmAt W3 v vm0 → Fr [] W1 W3 → v = W1.heap.size → y = W3.heap.size → Pr W0 (W3.alloc (.cells (rcells vm0) 86)) v p F y q G b nt ct TA t vm0 (layN n l nl) vm0 (layN n l nl)) := Lib.hid (by
    intro W1 W3 p F q G v y hm hv hf ev ey
    subst ey
    have z1 := hm.fr.size
    have z3 := hf.size
    have f4 : Fr [] W3 (W3.alloc (.cells (rcells vm0) 86)) := (Fr.refl [] W3).alloc _
    have hg := hm.gp
    exact Pm.tab (⟨hv.fr f4 (by simp), (hm.m.to hf (by simp) (by simp)).to f4 (by simp) (by simp), rvm_new W3, (hm.r.to hf (by simp) (by simp)).to f4 (by simp) (by simp), (hm.fr.trans hf).trans f4, by omega⟩ : Pm W0 _ v p F W3.heap.size q G vm0 _ vm0 _) ht hb H0.out (by omega))
  have HLn := Lib.hid (layN_n n l nl)
  have HRr := Lib.hid (hr.fr H0.out)
  have hna := hr.1
  simp only [maxLen] at hna
  generalize layN n l nl = S0 at *
  obtain ⟨k0, k2, k3, k4⟩ := HK.out W0 (Fr.refl _ _)
  have k1 : W0.cell? ⟨w.heap.size, 1, none⟩ = some (.slice LA nl cl) := HB.out.cell 1
  clear hl ht hb eN hr
  go_enter Try.func10, Try.ntmps10
  go_wp2_with (first
    | (go_at_call 40; refine H1.out.mono ?_; clear H1; rintro e w1 ⟨p, F, q, G, rfl, hd⟩; have HM1 := Lib.hid hd; clear hd k0 k1 k2 k3 k4)
    | (go_at_call 30; refine (HV.out _).mono ?_; clear HV; rintro e w3 ⟨rfl, hv, hf⟩; have hd0 := HD.out w1 w3 _ _ _ _ _ _ HM1.out hv hf rfl rfl; have HD3 := Lib.hid hd0; clear hd0 hv hf HD HM1)
    | fail)
  have HEx : Hid (∃ (v : Nat), Pr W0 (w3.alloc (.cells (rcells vm0) 86)) v p F w3.heap.size q G b nt ct TA t vm0 S0 vm0 S0 ∧ v = w1.heap.size) := Lib.hid ⟨_, HD3.out, rfl⟩
  generalize w3.heap.size = y at *
  go_loopg [7, 11, 12] N (fun gg v7 v11 v12 wr => ∃ (j ac v : Nat) (x : Vm) (st : St), j + gg = N ∧ v12 = .int .i64 (j : Int) ∧ v11 = .int .i64 (ac : Int) ∧ ac ≤ j ∧ v7 = ptr v ∧ Pr W0 wr v p F y q G b nt ct TA t x st x st ∧ st.n = n)
  case atStart =>
    exact ⟨0, 0, _, vm0, S0, by omega, rfl, rfl, Nat.le_refl _, rfl, HD3.out, HLn.out⟩
  case round =>
    obtain ⟨j, ac, v, x, st, hj, rfl, rfl, hac, rfl, hd, hn⟩ := hrel
    have Hj := Lib.hid hj
    have Hac := Lib.hid hac
    have Hd := Lib.hid hd
    have Hn := Lib.hid hn
    obtain ⟨a0, a2, a3, a4⟩ := HK.out _ hd.fr
    by_cases hlt : j < N
    · have hlt1 : (j : Int) < (N : Int) := by omega
      have hj0 : (0 : Int) ≤ (j : Int) := by omega
      have hjM : (j : Int) ≤ 400 := by omega
      have hwj : IntKind.i64.wrap ((j : Int) + 1) = (j : Int) + 1 := IntWalk.i64_in _ (by omega)
      have HKd := Lib.hid (fun W (h : Fr [] W0 W) => HK.out W h)
      clear hj hac hd hn
      go_upto_if 47 with (first
        | (go_at_call 39; refine (HPl.out _).mono ?_; rintro e w6 ⟨rfl, rfl⟩)
        | fail)
      go_cut [7] (fun v7 wx => ∃ v', v7 = ptr v' ∧ Pr W0 wx v' p F y q G b nt ct TA t x st x st)
      case first =>
        have HCl := Lib.hid Hd.out.clone
        by_cases h7 : (j : Int) = 7
        · have h7b : ((j : Int) == 7) = true := beq_iff_eq.2 h7
          clear h7
          go_wp2_with (first
            | (go_at_call 49; refine HCl.out.mono ?_; rintro e w6 ⟨rfl, hd6, -⟩; have Hd6 := Lib.hid hd6; clear hd6)
            | fail)
          go_meet
          exact ⟨_, rfl, Hd6.out⟩
        · have h7b : ((j : Int) == 7) = false := beq_eq_false_iff_ne.2 h7
          clear h7
          go_wp2_with fail
          go_meet
          exact ⟨_, rfl, Hd.out⟩
      case rest =>
        obtain ⟨v', rfl, hd⟩ := hcut
        have HdC := Lib.hid hd
        clear a0 a2 a3 a4
        obtain ⟨a0, a2, a3, a4⟩ := HK.out _ hd.fr
        have hstv := stepV_ok x st t
        obtain ⟨⟨⟨ek, en⟩, X, T⟩, hs1⟩ : ∃ q, stepV x st t = q := ⟨_, rfl⟩
        have hTn := (Wr.stepV x st t).n
        rw [hs1] at hstv hTn
        simp only at hTn
        have HTn := Lib.hid hTn
        have HS1 := Lib.hid hs1
        have R0 : Hid (RuR W0 v' p F y q G b nt ct TA t x X st T ek en false false false false false false 0 0 wc.drew) := Lib.hid ⟨hd.to (Fr.refl [] _).drew, (fun h => by cases h), (fun h => by cases h), (fun h => by cases h)⟩
        clear hd hs1 hstv hTn
        go_wp2_with fail
        --REGION
        have hmx : Try.prog.follows .mixedOrders = true := by kernel_rfl
        refine (wpIn_wide (n := 3)).1 ?_
        refine wpIn_region_inv2 hmx (by kernel_rfl) (fun L' a w' => ∃ g1, ∃ g2, a = { tmps := #[Value.agg #[Value.int IntKind.i64 (n : Int), Value.slice LA nl cl, Value.slice TA nt ct], Value.agg #[Value.int IntKind.i64 s, Value.slice RA na ca], Value.pointer (some ⟨w.heap.size, 0, none⟩), Value.pointer (some ⟨w.heap.size + 1, 0, none⟩), u4, ptr p, ptr q, ptr v', Value.pointer (some ⟨y, 0, none⟩), undef, undef, Value.int IntKind.i64 (ac : Int), Value.int IntKind.i64 (j : Int), bif L'.getD 10 false then ptr g1 else u13, bif L'.getD 11 false then ptr g2 else u14, u15, Value.tuple #[ptr p, ptr q], Value.agg #[Value.int IntKind.i64 (n : Int), Value.slice LA nl cl, Value.slice TA nt ct], Value.tuple #[ptr p, ptr q], ptr p, ptr q, ptr w1.heap.size, Value.agg #[Value.int IntKind.i64 0, Value.int IntKind.i64 0, Value.int IntKind.i64 0, Value.int IntKind.i64 0, Value.int IntKind.i64 0, Value.int IntKind.i64 0, Value.int IntKind.i64 0, Value.int IntKind.i64 0, Value.int IntKind.i64 0, Value.int IntKind.i64 0, Value.int IntKind.i64 0, Value.int IntKind.i64 0, Value.int IntKind.i64 0, Value.int IntKind.i64 0, Value.int IntKind.i64 0, Value.int IntKind.i64 0, Value.int IntKind.i64 0, Value.bool false], Value.pointer (some ⟨y, 0, none⟩), ptr p, Value.bool false, undef, undef, undef, undef, undef, undef, undef, undef, undef, undef, undef, ptr w1.heap.size, Value.bool false, u39, u40, u41, u42, u43, u44, u45, u46, u47, u48, u49, u50, u51, bif L'.getD 0 false then ptr v' else u52, bif L'.getD 1 false then ptr p else u53, bif L'.getD 2 false then Value.pointer (some ⟨w.heap.size, 2, none⟩) else u54, bif L'.getD 3 false then .slice TA nt ct else u55, bif L'.getD 4 false then .agg #[.int .i64 ek, .int .i64 en] else u56, bif L'.getD 5 false then Value.pointer (some ⟨y, 0, none⟩) else u57, bif L'.getD 6 false then ptr q else u58, bif L'.getD 7 false then Value.pointer (some ⟨w.heap.size, 2, none⟩) else u59, bif L'.getD 8 false then .slice TA nt ct else u60, bif L'.getD 9 false then .agg #[.int .i64 ek, .int .i64 en] else u61, u62, u63, u64, u65, u66, u67, u68, u69, u70, u71, u72, u73, u74, u75, u76, u77, u78, u79, u80, u81, u82, u83, u84, u85, u86, u87, u88, u89, u90, u91, u92, u93, u94, u95, u96, u97, u98, u99, u100, u101, u102, u103, u104, u105, u106, u107, u108, undef, undef, undef, undef, undef, undef, undef, undef], defers := [] } ∧ RuR W0 v' p F y q G b nt ct TA t x X st T ek en (L'.getD 4 false) (L'.getD 9 false) (L'.getD 10 false) (L'.getD 11 false) (L'.getD 12 false) (L'.getD 13 false) g1 g2 w') ⟨0, 0, rfl, R0.out⟩ ?_ ?_
        · rintro ⟨L'⟩ _ w' i o hs ho hf hp hc ⟨g1, g2, rfl, hR⟩
          match L', hs with
          | [z0, z1, z2, z3, z4, z5, z6, z7, z8, z9, z10, z11, z12, z13], _ =>
          have R : RuR W0 v' p F y q G b nt ct TA t x X st T ek en (z4) (z9) (z10) (z11) (z12) (z13) g1 g2 w' := hR
          clear hR
          match i, ho with
          | 0, ho =>
            injection ho with ho
            subst ho
            clear hc
            simp [Region.binds] at hf hp
            refine wpOpIn_step rfl (fun K' hK' => ?_)
            go_simp
            exact hK' _ _ ⟨g1, g2, by simp [hf, hp], R⟩
          | 1, ho =>
            injection ho with ho
            subst ho
            clear hc
            simp [Region.binds] at hf hp
            refine wpOpIn_step rfl (fun K' hK' => ?_)
            go_simp
            exact hK' _ _ ⟨g1, g2, by simp [hf, hp], R⟩
          | 2, ho =>
            injection ho with ho
            subst ho
            clear hc
            simp [Region.binds] at hf hp
            refine wpOpIn_step rfl (fun K' hK' => ?_)
            go_simp
            exact hK' _ _ ⟨g1, g2, by simp [hf, hp], R⟩
          | 3, ho =>
            injection ho with ho
            subst ho
            clear hc
            simp [Region.binds] at hf hp
            have a2 := (HKd.out _ R.d.fr).2.1
            refine wpOpIn_step rfl (fun K' hK' => ?_)
            go_simp
            exact hK' _ _ ⟨g1, g2, by simp [hf, hp], R⟩
          | 4, ho =>
            injection ho with ho
            subst ho
            clear hc
            simp [Region.binds] at hf hp
            have R' := R
            rw [hf] at R'
            have hC := R'.one HS1.out
            clear R R'
            refine wpOpIn_step rfl (fun K' hK' => ?_)
            go_simp
            refine ⟨trivial, (callsIn_wide.2 hC).mono ?_⟩
            rintro e w2 ⟨rfl, hR2⟩
            exact hK' _ _ ⟨g1, g2, by simp [hf, hp], hR2⟩
          | 5, ho =>
            injection ho with ho
            subst ho
            clear hc
            simp [Region.binds] at hf hp
            refine wpOpIn_step rfl (fun K' hK' => ?_)
            go_simp
            exact hK' _ _ ⟨g1, g2, by simp [hf, hp], R⟩
          | 6, ho =>
            injection ho with ho
            subst ho
            clear hc
            simp [Region.binds] at hf hp
            refine wpOpIn_step rfl (fun K' hK' => ?_)
            go_simp
            exact hK' _ _ ⟨g1, g2, by simp [hf, hp], R⟩
          | 7, ho =>
            injection ho with ho
            subst ho
            clear hc
            simp [Region.binds] at hf hp
            refine wpOpIn_step rfl (fun K' hK' => ?_)
            go_simp
            exact hK' _ _ ⟨g1, g2, by simp [hf, hp], R⟩
          | 8, ho =>
            injection ho with ho
            subst ho
            clear hc
            simp [Region.binds] at hf hp
            have a2 := (HKd.out _ R.d.fr).2.1
            refine wpOpIn_step rfl (fun K' hK' => ?_)
            go_simp
            exact hK' _ _ ⟨g1, g2, by simp [hf, hp], R⟩
          | 9, ho =>
            injection ho with ho
            subst ho
            clear hc
            simp [Region.binds] at hf hp
            have R' := R
            rw [hf] at R'
            have hC := R'.two HS1.out
            clear R R'
            refine wpOpIn_step rfl (fun K' hK' => ?_)
            go_simp
            refine ⟨trivial, (callsIn_wide.2 hC).mono ?_⟩
            rintro e w2 ⟨rfl, hR2⟩
            exact hK' _ _ ⟨g1, g2, by simp [hf, hp], hR2⟩
          | 10, ho =>
            injection ho with ho
            subst ho
            simp [Region.binds] at hf hp
            have k12 : z12 = false := hc.off (i := 12) (j := 10) (by kernel_rfl) hf
            clear hc
            have R' := R
            rw [hf, k12] at R'
            have R2 := Lib.hid R'.al1
            clear R R'
            refine wpOpIn_step rfl (fun K' hK' => ?_)
            go_simp
            exact hK' _ _ ⟨w'.heap.size, g2, by simp [hf, hp], by rw [k12]; exact R2.out⟩
          | 11, ho =>
            injection ho with ho
            subst ho
            simp [Region.binds] at hf hp
            have k13 : z13 = false := hc.off (i := 13) (j := 11) (by kernel_rfl) hf
            clear hc
            have R' := R
            rw [hf, k13] at R'
            have R2 := Lib.hid R'.al2
            clear R R'
            refine wpOpIn_step rfl (fun K' hK' => ?_)
            go_simp
            exact hK' _ _ ⟨g1, w'.heap.size, by simp [hf, hp], by rw [k13]; exact R2.out⟩
          | 12, ho =>
            injection ho with ho
            subst ho
            clear hc
            simp [Region.binds] at hf hp
            obtain ⟨k10, k4⟩ : z10 = true ∧ z4 = true := by simp [hp]
            have R' := R
            rw [hf, k10] at R'
            have R2 := Lib.hid R'.st1
            have c0 : w'.cell? ⟨g1, 0, none⟩ = some (.int .i64 0) := (R'.b1 rfl).1.cell 0
            have c1 : w'.cell? ⟨g1, 1, none⟩ = some (.int .i64 0) := (R'.b1 rfl).1.cell 1
            have cf := (R'.b1 rfl).1.frozen
            clear R R'
            refine wpOpIn_step rfl (fun K' hK' => ?_)
            go_simp
            exact hK' _ _ ⟨g1, g2, by simp [hf, hp], by rw [k10]; exact R2.out⟩
          | 13, ho =>
            injection ho with ho
            subst ho
            clear hc
            simp [Region.binds] at hf hp
            obtain ⟨k11, k9⟩ : z11 = true ∧ z9 = true := by simp [hp]
            have R' := R
            rw [hf, k11] at R'
            have R2 := Lib.hid R'.st2
            have c0 : w'.cell? ⟨g2, 0, none⟩ = some (.int .i64 0) := (R'.b2 rfl).1.cell 0
            have c1 : w'.cell? ⟨g2, 1, none⟩ = some (.int .i64 0) := (R'.b2 rfl).1.cell 1
            have cf := (R'.b2 rfl).1.frozen
            clear R R'
            refine wpOpIn_step rfl (fun K' hK' => ?_)
            go_simp
            exact hK' _ _ ⟨g1, g2, by simp [hf, hp], by rw [k11]; exact R2.out⟩
          | i + 14, ho => simp at ho
        · rintro _ w' ⟨g1, g2, rfl, hR⟩
          have R : RuR W0 v' p F y q G b nt ct TA t x X st T ek en (true) (true) (true) (true) (true) (true) g1 g2 w' := hR
          clear hR
          --TAIL
          have e0 : w'.cell? ⟨g1, 0, none⟩ = some (.int .i64 ek) := (R.b1 rfl).1.cell 0
          have e1 : w'.cell? ⟨g1, 1, none⟩ = some (.int .i64 en) := (R.b1 rfl).1.cell 1
          have f0 : w'.cell? ⟨g2, 0, none⟩ = some (.int .i64 ek) := (R.b2 rfl).1.cell 0
          have f1 : w'.cell? ⟨g2, 1, none⟩ = some (.int .i64 en) := (R.b2 rfl).1.cell 1
          have HR : Hid (Pr W0 w' v' p F y q G b nt ct TA t X T X T) := Lib.hid R.d
          have hbB := (R.b2 rfl).1
          have HBb := Lib.hid (fun W (hf : Fr [] w' W) => (show W.cell? ⟨g2, 0, none⟩ = some (.int .i64 ek) ∧ W.cell? ⟨g2, 1, none⟩ = some (.int .i64 en) from ⟨(hbB.fr hf (by simp)).cell 0, (hbB.fr hf (by simp)).cell 1⟩))
          have HTl := Lib.hid HR.out.tells
          clear R R0 hbB
          obtain ⟨wi, rfl⟩ : ∃ wi : World, wi = wr := ⟨_, rfl⟩
          have hj5 : (0 : Int) ≤ (j : Int) % 5 := by omega
          by_cases hna0 : na = 0
          · have hnb : ¬ (0 : Int) < (na : Int) := by omega
            clear hna0
            go_wp2_with (first
              | (go_at_call 45; refine HTl.out.mono ?_; clear HTl; rintro e w8 ⟨rfl, hd8, hf8⟩; have Hd8 := Lib.hid hd8; obtain ⟨f0', f1'⟩ := HBb.out _ hf8; obtain ⟨a0', a2', a3', a4'⟩ := HK.out _ hd8.fr; clear hd8 hf8)
              | fail)
            go_roundg (N - (j + 1))
            case measure => have := Hj.out; omega
            case rel => exact ⟨j + 1, ac, v', X, T, by have := Hj.out; omega, by go_num, rfl, by have := Hac.out; omega, rfl, Hd8.out, by rw [HTn.out]; exact Hn.out⟩
          · have hnb : (0 : Int) < (na : Int) := by omega
            by_cases h3 : ek = 3
            · have h3b : (ek == 3) = true := beq_iff_eq.2 h3
              clear h3
              obtain ⟨ix, hix, hixl⟩ : ∃ ix : Nat, (ac : Int) % (na : Int) = (ix : Int) ∧ ix < na := ⟨ac % na, by omega, Nat.mod_lt _ (by omega)⟩
              obtain ⟨hnum, bA, oA, rfl, -⟩ := HRr.out.2 ix hixl
              have HCe := Lib.hid (fun W (hf : Fr [] W0 W) => (show W.cell? ⟨bA, oA + ix, none⟩ = some (.slice (B ix) (kk ix) (cc ix)) ∧ NumS W (B ix) (kk ix) (ll ix) by
                obtain ⟨hn2, b2, o2, e2, hc2⟩ := (HRr.out.fr hf).2 ix hixl
                injection e2 with e2
                injection e2 with e3 e4
                subst e3 e4
                exact ⟨hc2, hn2⟩))
              have HBl : Hid (∀ g o, B ix = some ⟨g, o, none⟩ → 0 < kk ix → g < W0.heap.size) := Lib.hid (fun g o e hk => by
                obtain ⟨-, b2, o2, e2, hc2⟩ := hnum.2 0 hk
                rw [e] at e2
                injection e2 with e2
                injection e2 with e3 e4
                subst e3
                exact World.block_lt_of_cell? _ _ hc2)
              have hixN : (ix : Int) < (na : Int) := by omega
              have hix0 : (0 : Int) ≤ (ix : Int) := by omega
              have hac0 : (0 : Int) ≤ (ac : Int) := by omega
              have hac4 : (ac : Int) ≤ 400 := by have := Hac.out; omega
              have hwa : IntKind.i64.wrap ((ac : Int) + 1) = (ac : Int) + 1 := IntWalk.i64_in _ (by omega)
              have hnap : (0 : Int) < (na : Int) := by omega
              have hix2 : (ac : Int).tmod (na : Int) = (ix : Int) := by rw [Int.tmod_eq_emod_of_nonneg hac0]; exact hix
              have HX1 := Lib.hid (fun W (h : Pr W0 W v' p F y q G b nt ct TA t X T X T) => h.ansP (B ix) (kk ix) (cc ix) (ll ix) (HCe.out W h.fr).2 (fun g o e hk => by have := HBl.out g o e hk; have := h.g; omega))
              have HX2 := Lib.hid (fun W x1 (h : Pr W0 W v' p F y q G b nt ct TA t x1 T X T) => h.ansR (B ix) (kk ix) (cc ix) (ll ix) (HCe.out W h.fr).2 (fun g o e hk => by have := HBl.out g o e hk; have := h.g; omega))
              obtain ⟨q8, -⟩ := HCe.out _ (Fr.refl _ _)
              clear hnum hixl hix q8
              generalize B ix = LB at *
              generalize kk ix = lk at *
              generalize cc ix = lc at *
              generalize ll ix = lll at *
              generalize (if X.wt = true ∧ lk = 3 then (0 : Int) else 100) = ER at *
              generalize (if X.wt = true ∧ lk = 3 then ansV X lll else X) = Y at *
              go_wp2_with (first
                | (go_at_call 45; refine HTl.out.mono ?_; clear HTl; rintro e w8 ⟨rfl, hd8, hf8⟩; have Hd8 := Lib.hid hd8; obtain ⟨f0', f1'⟩ := HBb.out _ hf8; obtain ⟨a0', a2', a3', a4'⟩ := HK.out _ hd8.fr; obtain ⟨q8, -⟩ := HCe.out _ hd8.fr; clear hd8 hf8)
                | fail)
              go_region
              go_wp2_with (first
                | (go_at_call 33; refine (HX1.out _ (Hd8.out.to (by repeat (first | exact Fr.refl _ _ | (refine Fr.alloc ?_ _) | (refine Fr.drew ?_) | (refine Fr.setCell ?_ (.inr (by simp; try omega)) _))))).mono ?_; rintro e w9 ⟨rfl, hd9, -⟩; have Hd9 := Lib.hid hd9; clear hd9)
                | (go_at_call 50; refine (HX2.out _ _ Hd9.out).mono ?_; rintro e w10 ⟨rfl, hd10, -⟩; have Hd10 := Lib.hid hd10; clear hd10)
                | (go_at_call 45; refine Hd10.out.tells.mono ?_; rintro e w11 ⟨rfl, hd11, -⟩)
                | fail)
              go_roundg (N - (j + 1))
              case measure => have := Hj.out; omega
              case rel => exact ⟨j + 1, ac + 1, v', Y, T, by have := Hj.out; omega, by go_num, by go_num, by have := Hac.out; omega, rfl, hd11, by rw [HTn.out]; exact Hn.out⟩
            · have h3b : (ek == 3) = false := beq_eq_false_iff_ne.2 h3
              clear h3
              by_cases h5 : (j : Int) % 5 = 4
              · have h5b : ((j : Int) % 5 == 4) = true := beq_iff_eq.2 h5
                clear h5
                obtain ⟨ix, hix, hixl⟩ : ∃ ix : Nat, (ac : Int) % (na : Int) = (ix : Int) ∧ ix < na := ⟨ac % na, by omega, Nat.mod_lt _ (by omega)⟩
                obtain ⟨hnum, bA, oA, rfl, -⟩ := HRr.out.2 ix hixl
                have HCe := Lib.hid (fun W (hf : Fr [] W0 W) => (show W.cell? ⟨bA, oA + ix, none⟩ = some (.slice (B ix) (kk ix) (cc ix)) ∧ NumS W (B ix) (kk ix) (ll ix) by
                  obtain ⟨hn2, b2, o2, e2, hc2⟩ := (HRr.out.fr hf).2 ix hixl
                  injection e2 with e2
                  injection e2 with e3 e4
                  subst e3 e4
                  exact ⟨hc2, hn2⟩))
                have HBl : Hid (∀ g o, B ix = some ⟨g, o, none⟩ → 0 < kk ix → g < W0.heap.size) := Lib.hid (fun g o e hk => by
                  obtain ⟨-, b2, o2, e2, hc2⟩ := hnum.2 0 hk
                  rw [e] at e2
                  injection e2 with e2
                  injection e2 with e3 e4
                  subst e3
                  exact World.block_lt_of_cell? _ _ hc2)
                have hixN : (ix : Int) < (na : Int) := by omega
                have hix0 : (0 : Int) ≤ (ix : Int) := by omega
                have hac0 : (0 : Int) ≤ (ac : Int) := by omega
                have hac4 : (ac : Int) ≤ 400 := by have := Hac.out; omega
                have hwa : IntKind.i64.wrap ((ac : Int) + 1) = (ac : Int) + 1 := IntWalk.i64_in _ (by omega)
                have hnap : (0 : Int) < (na : Int) := by omega
                have hix2 : (ac : Int).tmod (na : Int) = (ix : Int) := by rw [Int.tmod_eq_emod_of_nonneg hac0]; exact hix
                have HX1 := Lib.hid (fun W (h : Pr W0 W v' p F y q G b nt ct TA t X T X T) => h.ansP (B ix) (kk ix) (cc ix) (ll ix) (HCe.out W h.fr).2 (fun g o e hk => by have := HBl.out g o e hk; have := h.g; omega))
                have HX2 := Lib.hid (fun W x1 (h : Pr W0 W v' p F y q G b nt ct TA t x1 T X T) => h.ansR (B ix) (kk ix) (cc ix) (ll ix) (HCe.out W h.fr).2 (fun g o e hk => by have := HBl.out g o e hk; have := h.g; omega))
                obtain ⟨q8, -⟩ := HCe.out _ (Fr.refl _ _)
                clear hnum hixl hix q8
                generalize B ix = LB at *
                generalize kk ix = lk at *
                generalize cc ix = lc at *
                generalize ll ix = lll at *
                generalize (if X.wt = true ∧ lk = 3 then (0 : Int) else 100) = ER at *
                generalize (if X.wt = true ∧ lk = 3 then ansV X lll else X) = Y at *
                go_wp2_with (first
                  | (go_at_call 45; refine HTl.out.mono ?_; clear HTl; rintro e w8 ⟨rfl, hd8, hf8⟩; have Hd8 := Lib.hid hd8; obtain ⟨f0', f1'⟩ := HBb.out _ hf8; obtain ⟨a0', a2', a3', a4'⟩ := HK.out _ hd8.fr; obtain ⟨q8, -⟩ := HCe.out _ hd8.fr; clear hd8 hf8)
                  | fail)
                go_region
                go_wp2_with (first
                  | (go_at_call 33; refine (HX1.out _ (Hd8.out.to (by repeat (first | exact Fr.refl _ _ | (refine Fr.alloc ?_ _) | (refine Fr.drew ?_) | (refine Fr.setCell ?_ (.inr (by simp; try omega)) _))))).mono ?_; rintro e w9 ⟨rfl, hd9, -⟩; have Hd9 := Lib.hid hd9; clear hd9)
                  | (go_at_call 50; refine (HX2.out _ _ Hd9.out).mono ?_; rintro e w10 ⟨rfl, hd10, -⟩; have Hd10 := Lib.hid hd10; clear hd10)
                  | (go_at_call 45; refine Hd10.out.tells.mono ?_; rintro e w11 ⟨rfl, hd11, -⟩)
                  | fail)
                go_roundg (N - (j + 1))
                case measure => have := Hj.out; omega
                case rel => exact ⟨j + 1, ac + 1, v', Y, T, by have := Hj.out; omega, by go_num, by go_num, by have := Hac.out; omega, rfl, hd11, by rw [HTn.out]; exact Hn.out⟩
              · have h5b : ((j : Int) % 5 == 4) = false := beq_eq_false_iff_ne.2 h5
                clear h5
                go_wp2_with (first
                  | (go_at_call 45; refine HTl.out.mono ?_; clear HTl; rintro e w8 ⟨rfl, hd8, hf8⟩; have Hd8 := Lib.hid hd8; obtain ⟨f0', f1'⟩ := HBb.out _ hf8; obtain ⟨a0', a2', a3', a4'⟩ := HK.out _ hd8.fr; clear hd8 hf8)
                  | fail)
                go_roundg (N - (j + 1))
                case measure => have := Hj.out; omega
                case rel => exact ⟨j + 1, ac, v', X, T, by have := Hj.out; omega, by go_num, rfl, by have := Hac.out; omega, rfl, Hd8.out, by rw [HTn.out]; exact Hn.out⟩
        --ENDREGION
    · have hlt1 : ¬ (j : Int) < (N : Int) := by omega
      have hlt2 : decide (j < N) = false := decide_eq_false hlt
      have HSm := Lib.hid (show Calls Try.prog 46 #[ptr p, ptr q, .int .i64 (n : Int)] wr fun e w' => e = .returned (.bool true) ∧ wr = w' by have := hd.same; rwa [hn] at this)
      clear hj hac hd hn hlt
      go_wp2_with (first
        | (go_at_call 39; refine (HPl.out _).mono ?_; rintro e w6 ⟨rfl, rfl⟩)
        | (go_at_call 46; refine HSm.out.mono ?_; rintro e w11 ⟨rfl, rfl⟩)
        | (go_at_call 37; refine (HFx.out _).mono ?_; rintro e w12 ⟨rfl, hf12⟩)
        | fail)
      go_ret
      exact ⟨rfl, (H0.out.trans Hd.out.fr).trans hf12⟩
theorem runs_walk (n : Int) (LA : Option Addr) (nl cl : Nat) (l : Nat → ByteArray) (TA : Option Addr) (nt ct b : Nat) (t : List Pg) (s : Int) (RA : Option Addr) (na ca : Nat) (B : Nat → Option Addr) (kk cc : Nat → Nat) (ll : Nat → Nat → Int) (w : World) (hl : PrZ w LA nl l) (ht : Tb w b (.slice TA nt ct) t) (hb : b < w.heap.size ∨ b = 0) (hr : NumsS w RA na B kk cc ll) :
    Calls Try.prog 10 #[.agg #[.int .i64 n, .slice LA nl cl, .slice TA nt ct], .agg #[.int .i64 s, .slice RA na ca]] w fun e w' => e = .returned (.bool true) ∧ Fr [] w w' := by
  by_cases h : n < 1 ∨ 160 < n
  · exact runs_bad n LA nl cl TA nt ct s RA na ca w h
  · obtain ⟨m, rfl⟩ := Int.eq_ofNat_of_zero_le (by omega : 0 ≤ n)
    exact runs_ok m (by omega) (by omega) LA nl cl l TA nt ct b t s RA na ca B kk cc ll w hl ht hb hr
end Go.Proofs.Ytonongaakieciaa

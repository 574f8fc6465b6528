/- ConsoleHides: what a level without the focus writes changes nothing. -/
import Derived.Test.YtkjahokffpihmaaDoorC23
import Derived.Deep.QuietTactic
import Derived.BigQuiet
namespace Go.Proofs.YtkjahokffpihmaaDoor
open Go.RowKit
set_option linter.unusedVariables false
set_option linter.unusedSimpArgs false
set_option maxRecDepth 100000
/-- Two consoles, apart, made since w0, in one state. -/
structure Du (w0 W : World) (c k d q : Nat) (x : Con) : Prop where
  a : Cn w0 W c k x
  b : Cn w0 W d q x
  n : c ≠ d ∧ c ≠ q ∧ k ≠ d ∧ k ≠ q
section
variable {w0 W W' : World} {c k d q : Nat} {x x' : Con}
theorem Du.to (h : Du w0 W c k d q x) (hf : Fr [] W W') : Du w0 W' c k d q x := ⟨h.a.to hf, h.b.to hf, h.n⟩
/-- The one is ahead. -/
structure Dv (w0 W : World) (c k d q : Nat) (x y : Con) : Prop where
  a : Cn w0 W c k x
  b : Cn w0 W d q y
  n : c ≠ d ∧ c ≠ q ∧ k ≠ d ∧ k ≠ q
theorem Dv.to {y : Con} (h : Dv w0 W c k d q x y) (hf : Fr [] W W') : Dv w0 W' c k d q x y := ⟨h.a.to hf, h.b.to hf, h.n⟩
theorem Dv.turnA {y : Con} (h : Dv w0 W c k d q x y) (ha : Cn w0 W' c k x') (hf : Fr [c, k] W W') : Dv w0 W' c k d q x' y :=
  ⟨ha, ⟨h.b.a.fr hf (by have := h.n; simp; omega) (by have := h.n; simp; omega), ha.f, h.b.c0, h.b.k0⟩, h.n⟩
theorem Dv.turnB {y y' : Con} (h : Dv w0 W c k d q x y) (hb : Cn w0 W' d q y') (hf : Fr [d, q] W W') : Dv w0 W' c k d q x y' :=
  ⟨⟨h.a.a.fr hf (by have := h.n; simp; omega) (by have := h.n; simp; omega), hb.f, h.a.c0, h.a.k0⟩, hb, h.n⟩
end
/-- A call of the second script. -/
def moreC (x : Con) (o : OpC) : Con := if o.kind = 0 then keysX x o.s.data.toList else if o.kind = 1 then write x o.a o.s.data.toList else x
/-- What another level writes: nothing. -/
theorem write_other {x : Con} {l : Int} (t : List UInt8) (h : x.fo ≠ l) : write x l t = x := by
  unfold write
  by_cases hi : isL x l = true
  · rw [if_pos hi, if_neg h]
  · rw [if_neg hi]
theorem Du.dv {w0 W : World} {c k d q : Nat} {x : Con} (h : Du w0 W c k d q x) : Dv w0 W c k d q x x := ⟨h.a, h.b, h.n⟩
theorem fo_write (x : Con) (l : Int) (t : List UInt8) : (write x l t).fo = x.fo := by
  unfold write
  split
  · split <;> rfl
  · rfl
theorem banner_fo {x y : Con} (h : x.fo = y.fo) : banner x = banner y := by unfold banner; rw [h]
/-- Two consoles in one state answer alike. -/
structure Twin (R : World → Prop) (c d : Nat) (f : Int) (bn : ByteArray) (l : List ByteArray) : Prop where
  fa : ∀ W, R W → Calls Tryd.prog 17 #[ptr c] W fun e w' => e = .returned (.int .i64 f) ∧ W = w'
  fb : ∀ W, R W → Calls Tryd.prog 17 #[ptr d] W fun e w' => e = .returned (.int .i64 f) ∧ W = w'
  ba : ∀ W, R W → Calls Tryd.prog 20 #[ptr c] W fun e w' => e = .returned (.string bn) ∧ W = w'
  bb : ∀ W, R W → Calls Tryd.prog 20 #[ptr d] W fun e w' => e = .returned (.string bn) ∧ W = w'
  sa : ∀ W, R W → Calls Tryd.prog 15 #[ptr c] W fun e w' => ∃ g cap, e = .returned (.slice (some ⟨g, 0, none⟩) 6 cap) ∧ StrsAt w' g 0 l ∧ Fr [] W w'
  sb : ∀ W, R W → Calls Tryd.prog 15 #[ptr d] W fun e w' => ∃ g cap, e = .returned (.slice (some ⟨g, 0, none⟩) 6 cap) ∧ StrsAt w' g 0 l ∧ Fr [] W w'
  sm : ∀ W g1 o1 g2 o2, StrsAt W g1 0 l → StrsAt W g2 0 l → Calls Tryd.prog 14 #[.slice (some ⟨g1, 0, none⟩) 6 o1, .slice (some ⟨g2, 0, none⟩) 6 o2] W fun e w' => e = .returned (.bool true) ∧ Fr [] W w'
theorem twin_of (W0 : World) (c k d q : Nat) (x : Con) : ∃ f bn l, Twin (fun W => Dv W0 W c k d q x x) c d f bn l := by
  have h6 : (screenL x.sc).length = 6 := by unfold screenL; simp
  refine ⟨x.fo, banner x, screenL x.sc, ⟨fun W h => h.a.focus, fun W h => h.b.focus, fun W h => h.a.banner, fun W h => h.b.banner, fun W h => h.a.screen.mono ?_, fun W h => h.b.screen.mono ?_, fun W g1 o1 g2 o2 h1 h2 => ?_⟩⟩
  · rintro e w' ⟨g, cap, he, -, -, hk, hf, -⟩
    rw [h6] at he
    exact ⟨g, cap, he, hk.strs, hf⟩
  · rintro e w' ⟨g, cap, he, -, -, hk, hf, -⟩
    rw [h6] at he
    exact ⟨g, cap, he, hk.strs, hf⟩
  · have := same_any W g1 0 o1 g2 0 o2 (screenL x.sc) (screenL x.sc) h1 h2 (by rw [h6]; exact mx_le (by omega)) (by rw [h6]; exact mx_le (by omega))
    rw [h6] at this
    refine this.mono ?_
    rintro e w' ⟨he, hf⟩
    exact ⟨by rw [he, decide_eq_true rfl], hf⟩
theorem hides_no (w : World) (lv : Int) (lg : ByteArray) (hs : lg.size ≤ maxLen) (A : Option Addr) (n cap : Nat) (v1 v2 v3 : Value) (o1 : v1.oneCell' = true) (o2 : v2.oneCell' = true) (o3 : v3.oneCell' = true) (h : okNew lv lg = false) : Calls Tryd.prog 8 #[.int .i64 lv, .string lg, .agg #[.slice A n cap, v1, v2, v3]] w (FixP w) := by
  have HM := Lib.hid (fun W => made_no W lv lg A n cap h)
  have HN := nil_end (w := w) lv lg hs h
  have HX := Lib.hid fixed_any
  have HA := Lib.hid ((Fr.refl [] w).alloc (.cells #[.slice A n cap, v1, v2, v3] 58))
  clear h hs
  go_enter Tryd.func8, Tryd.ntmps8
  go_wp2_with (first
    | (go_at_call 9; refine (HM.out _).mono ?_; rintro e w1 ⟨rfl, hf⟩; have HF1 := Lib.hid (HA.out.trans hf); clear hf)
    | (go_at_call 10; refine (HN.out _).mono ?_; rintro e w2 ⟨rfl, rfl⟩)
    | (go_at_call 11; refine (HX.out _).mono ?_; rintro e w3 ⟨rfl, hf3⟩; have HP := Lib.hid (HF1.out.trans hf3); clear hf3))
  go_ret
  exact ⟨rfl, HP.out⟩
set_option maxHeartbeats 6000000 in
theorem hides_yes (w : World) (L : Nat) (lg : ByteArray) (A : Option Addr) (n cap : Nat) (ops : Nat → OpC) (ho : OpsC w A n ops) (B : Option Addr) (m cp : Nat) (more : Nat → OpC) (hm : OpsC w B m more) (lev : Int) (hl0 : -9223372036854775808 ≤ lev) (hl1 : lev ≤ 9223372036854775807) (S : ByteArray) (hS : S.size ≤ maxLen) (h : okNew (L : Int) lg = true) : Calls Tryd.prog 8 #[.int .i64 (L : Int), .string lg, .agg #[.slice A n cap, .slice B m cp, .int .i64 lev, .string S]] w (FixP w) := by
  obtain ⟨n', hn', l1, l8, hlg⟩ := okNew_spec h
  obtain rfl : n' = L := by omega
  obtain ⟨W0, hW0⟩ : ∃ W0, w.alloc (.cells #[.slice A n cap, .slice B m cp, .int .i64 lev, .string S] 58) = W0 := ⟨_, rfl⟩
  have hF0 : Fr [] w W0 := by rw [← hW0]; exact (Fr.refl [] w).alloc _
  have hc1 : W0.cell? ⟨w.heap.size, 1, none⟩ = some (.slice B m cp) := by rw [← hW0]; simp
  have hc2 : W0.cell? ⟨w.heap.size, 2, none⟩ = some (.int .i64 lev) := by rw [← hW0]; simp
  have hc3 : W0.cell? ⟨w.heap.size, 3, none⟩ = some (.string S) := by rw [← hW0]; simp
  have HB := Lib.hid (fun W (hf : Fr [] W0 W) => And.intro (hf.cell_some hc1 (by simp)) (And.intro (hf.cell_some hc2 (by simp)) (hf.cell_some hc3 (by simp))))
  obtain ⟨y, hy⟩ : ∃ y, runC (newCon (n' : Int).toNat lg) ops n = y := ⟨_, rfl⟩
  have hylv : y.lv = n' := by rw [← hy]; exact (runC_lv (newCon (n' : Int).toNat lg) ops n).1
  have HM := Lib.hid (made_yes W0 (n' : Int) lg A n cap ops (ho.fr hF0) h)
  rw [hy] at HM
  have HMO := Lib.hid (hm.fr hF0)
  obtain ⟨l, hl⟩ : ∃ l : Nat, lev % (n' : Int) = (l : Int) := Int.eq_ofNat_of_zero_le (Int.emod_nonneg _ (by omega))
  have hll : l < n' := by have := Int.emod_lt_of_pos lev (show (0 : Int) < (n' : Int) by omega); omega
  have HPL := Lib.hid (fun W => place_any lev n' (by omega) (by omega) hl0 hl1 W)
  rw [hl] at HPL
  have HX := Lib.hid fixed_any
  have HW := Lib.hid hW0
  have HF0 := Lib.hid hF0
  have HYL := Lib.hid hylv
  have hl8 : (n' : Int) ≤ 8 := by omega
  have hms : m ≤ 9223372036854775807 := by have := hm.1; simpa [maxLen] using this
  have HSS := Lib.hid hS
  have Hll := Lib.hid hll
  clear h hn' l1 l8 hlg hW0 hc1 hc2 hc3 ho hm hF0 hy hylv hl hS hl0 hl1 hll
  go_enter Tryd.func8, Tryd.ntmps8
  go_wp2_with fail
  rw [HW.out]
  refine HM.out.mono ?_
  rintro e w1 ⟨c, k, rfl, h1⟩
  clear HM
  go_wp2_with fail
  refine (clone_any w1 c k y h1.a).mono ?_
  rintro e w2 ⟨d, q, rfl, hd, hf2, hd1, hq1⟩
  have hDv : Dv W0 w2 c k d q y y := by
    have a1 := h1.lt
    have a2 := h1.f.size
    exact ⟨h1.to hf2, ⟨hd, h1.f.trans hf2, by omega, by omega⟩, by omega, by omega, by omega, by omega⟩
  have HD := Lib.hid hDv
  obtain ⟨b1, b2, b3⟩ := HB.out _ hDv.a.f
  have HFO := Lib.hid (hDv.a.focus)
  clear h1 hd hf2 hd1 hq1 hDv
  by_cases hfo : y.fo = (l : Int)
  · rw [hfo] at HFO
    have HWR : Hid (Calls Tryd.prog 19 #[ptr c, .int .i64 (l : Int), .string S] w2 fun e w' => e = .returned (.int .i64 0) ∧ Dv W0 w' c k d q (write y (l : Int) S.data.toList) y) := Lib.hid ((HD.out.a.write (l : Int) S HSS.out).mono fun e w' ⟨he, ha, hf⟩ => ⟨by
      have : wrE y (l : Int) = 0 := by
        unfold wrE isL
        rw [if_pos (by rw [Bool.and_eq_true, decide_eq_true_eq, decide_eq_true_eq, HYL.out]; have := Hll.out; omega)]
      rw [this] at he
      exact he, HD.out.turnA ha hf⟩)
    have FY : Hid (∀ W, Dv W0 W c k d q (write y (l : Int) S.data.toList) y → Calls Tryd.prog 17 #[ptr c] W fun e w' => e = .returned (.int .i64 (l : Int)) ∧ W = w') := Lib.hid fun W hc => by
      have hh := hc.a.focus
      rw [fo_write, hfo] at hh
      exact hh
    have BC : Hid (∀ W, Dv W0 W c k d q (write y (l : Int) S.data.toList) y → Calls Tryd.prog 20 #[ptr c] W fun e w' => e = .returned (.string (banner y)) ∧ W = w') := Lib.hid fun W hc => by
      have hh := hc.a.banner
      rw [banner_fo (fo_write y _ _)] at hh
      exact hh
    have BD : Hid (∀ W, Dv W0 W c k d q (write y (l : Int) S.data.toList) y → Calls Tryd.prog 20 #[ptr d] W fun e w' => e = .returned (.string (banner y)) ∧ W = w') := Lib.hid fun W hc => hc.b.banner
    clear hfo
    generalize write y (l : Int) S.data.toList = y2 at *
    go_wp2_with (first
      | (go_at_call 22; refine (HPL.out _).mono ?_; rintro e wz ⟨rfl, rfl⟩)
      | (go_at_call 17; have hq := HFO.out; (with_reducible refine hq.mono ?_); clear hq; rintro e wz ⟨rfl, rfl⟩)
      | (go_at_call 19; refine HWR.out.mono ?_; rintro e w3 ⟨rfl, hv⟩)
      | (go_at_call 17; have hq := FY.out _ hv; (with_reducible refine hq.mono ?_); clear hq; rintro e wz ⟨rfl, rfl⟩)
      | (go_at_call 20; have hq := BC.out _ hv; (with_reducible refine hq.mono ?_); clear hq; rintro e wz ⟨rfl, rfl⟩)
      | (go_at_call 20; have hq := BD.out _ hv; (with_reducible refine hq.mono ?_); clear hq; rintro e wz ⟨rfl, rfl⟩; have HZ := Lib.hid (HF0.out.trans hv.a.f))
      | (go_at_call 11; refine (HX.out _).mono ?_; rintro e w9 ⟨rfl, hf9⟩; have HP := Lib.hid (HZ.out.trans hf9); clear hf9))
    go_ret
    exact ⟨rfl, HP.out⟩
  · have HWR : Hid (Calls Tryd.prog 19 #[ptr c, .int .i64 (l : Int), .string S] w2 fun e w' => e = .returned (.int .i64 0) ∧ Dv W0 w' c k d q y y) := Lib.hid ((HD.out.a.write (l : Int) S HSS.out).mono fun e w' ⟨he, ha, hf⟩ => ⟨by
      have : wrE y (l : Int) = 0 := by
        unfold wrE isL
        rw [if_pos (by rw [Bool.and_eq_true, decide_eq_true_eq, decide_eq_true_eq, HYL.out]; have := Hll.out; omega)]
      rw [this] at he
      exact he, by
        rw [write_other _ hfo] at ha
        exact HD.out.turnA ha hf⟩)
    have hfb : (y.fo == (l : Int)) = false := beq_eq_false_iff_ne.2 hfo
    clear hfo HYL
    generalize y.fo = f0 at *
    clear HD
    go_wp2_with (first
      | (go_at_call 22; refine (HPL.out _).mono ?_; rintro e wz ⟨rfl, rfl⟩)
      | (go_at_call 17; have hq := HFO.out; (with_reducible refine hq.mono ?_); clear hq; rintro e wz ⟨rfl, rfl⟩)
      | (go_at_call 19; refine HWR.out.mono ?_; rintro e w3 ⟨rfl, h3⟩))
    clear b1 b2 b3 hfb HWR HFO HPL
    go_loopg [12] (m + 1) (fun gg i wr => ∃ x, Dv W0 wr c k d q x x ∧ ((gg = m + 1 ∧ i = .int .i64 (-1)) ∨ ∃ j : Nat, j + gg = m ∧ i = .int .i64 j))
    case atStart => exact ⟨y, h3, .inl ⟨rfl, rfl⟩⟩
    case round =>
      clear h3 y
      obtain ⟨x, hv, ⟨hg, rfl⟩ | ⟨j, hk, rfl⟩⟩ := hrel
      · obtain ⟨x2, hx2⟩ : ∃ x2, x2 = x := ⟨_, rfl⟩
        rw [← hx2] at hv
        obtain ⟨q1, -, -⟩ := HB.out _ hv.a.f
        have Hg := Lib.hid hg
        clear hx2 hg
        have hm0 : (-1 : Int) < (m : Int) := by omega
        go_wp2_with fail
        go_quiet (fail)
        have hv := hv.to ((Fr.refl [] wr).drewN nq)
        obtain ⟨f9, bn, rows, ht⟩ := twin_of W0 c k d q x2
        have TW := Lib.hid ht
        clear ht
        go_wp2_with (first
          | (go_at_call 17; have hq := TW.out.fa _ hv; (with_reducible refine hq.mono ?_); clear hq; rintro e wz ⟨rfl, rfl⟩)
          | (go_at_call 17; have hq := TW.out.fb _ hv; (with_reducible refine hq.mono ?_); clear hq; rintro e wz ⟨rfl, rfl⟩)
          | (go_at_call 20; have hq := TW.out.ba _ hv; (with_reducible refine hq.mono ?_); clear hq; rintro e wz ⟨rfl, rfl⟩)
          | (go_at_call 20; have hq := TW.out.bb _ hv; (with_reducible refine hq.mono ?_); clear hq; rintro e wz ⟨rfl, rfl⟩)
          | (go_at_call 15; have hq := TW.out.sa _ hv; (with_reducible refine hq.mono ?_); clear hq; rintro e w7 ⟨g1, o1, rfl, hs1, hf7⟩; have hv := hv.to hf7; clear hf7)
          | (go_at_call 15; have hq := TW.out.sb _ hv; (with_reducible refine hq.mono ?_); clear hq; rintro e w8 ⟨g2, o2, rfl, hs2, hf8⟩; have hv := hv.to hf8; have hs1 := hs1.to hf8; clear hf8)
          | (go_at_call 14; have hq := TW.out.sm _ _ o1 _ o2 hs1 hs2; (with_reducible refine hq.mono ?_); clear hq; rintro e w9 ⟨rfl, hf9⟩; have HQ := Lib.hid (hv.to hf9); clear hf9 hv hs1 hs2))
        go_roundg m
        case rel => exact ⟨x2, HQ.out, .inr ⟨0, by omega, by go_num⟩⟩
        case measure => have := Hg.out; omega
      · have Hk := Lib.hid hk
        by_cases hlt : j < m
        · have hlt' : (j : Int) < (m : Int) := by omega
          have hk0 : (0 : Int) ≤ (j : Int) := by omega
          obtain ⟨b, off, rfl, ha⟩ := HMO.out.2 j hlt
          have HAT : Hid (∀ W, Fr [] W0 W → W.cell? ⟨w.heap.size, 1, none⟩ = some (.slice (some ⟨b, off, none⟩) m cp) ∧ W.cell? ⟨b, off + j * 4 + 1, none⟩ = some (.int .i64 (more j).kind) ∧ W.cell? ⟨b, off + j * 4 + 2, none⟩ = some (.int .i64 (more j).a) ∧ W.cell? ⟨b, off + j * 4 + 3, none⟩ = some (.string (more j).s)) := Lib.hid (fun W hf => ⟨(HB.out _ hf).1, (ha.fr hf).c1, (ha.fr hf).c2, (ha.fr hf).c3⟩)
          clear ha hk
          obtain ⟨q1, a1, a2, a3⟩ := HAT.out _ hv.a.f
          have hso := (more j).hs
          by_cases h0 : (more j).kind = 0
          · rw [h0] at a1
            have HKA : Hid (∀ W, Dv W0 W c k d q x x → Calls Tryd.prog 23 #[ptr c, .string (more j).s] W fun e w' => e = .returned (.tuple #[]) ∧ Dv W0 w' c k d q (keysX x (more j).s.data.toList) x) := Lib.hid fun W hv => (cn_keys hv.a (more j).s hso).mono fun e w' ⟨he, ha, hf⟩ => ⟨he, hv.turnA ha hf⟩
            have HKB : Hid (∀ W z, Dv W0 W c k d q z x → Calls Tryd.prog 23 #[ptr d, .string (more j).s] W fun e w' => e = .returned (.tuple #[]) ∧ Dv W0 w' c k d q z (keysX x (more j).s.data.toList)) := Lib.hid fun W z hv => (cn_keys hv.b (more j).s hso).mono fun e w' ⟨he, ha, hf⟩ => ⟨he, hv.turnB ha hf⟩
            have HR : Hid (∀ W z, Dv W0 W c k d q z x → W.cell? ⟨w.heap.size, 1, none⟩ = some (.slice (some ⟨b, off, none⟩) m cp) ∧ W.cell? ⟨b, off + j * 4 + 1, none⟩ = some (.int .i64 0) ∧ W.cell? ⟨b, off + j * 4 + 3, none⟩ = some (.string (more j).s)) := Lib.hid fun W z hv => by
              obtain ⟨p1, p2, -, p3⟩ := HAT.out _ hv.a.f
              rw [h0] at p2
              exact ⟨p1, p2, p3⟩
            have HR2 : Hid (∀ W z, Dv W0 W c k d q z z → W.cell? ⟨w.heap.size, 1, none⟩ = some (.slice (some ⟨b, off, none⟩) m cp) ∧ W.cell? ⟨b, off + j * 4 + 1, none⟩ = some (.int .i64 0)) := Lib.hid fun W z hv => by
              obtain ⟨p1, p2, -, p3⟩ := HAT.out _ hv.a.f
              rw [h0] at p2
              exact ⟨p1, p2⟩
            have hg1 : ((0 : Int) == 1) = false := rfl
            clear h0 hso a2 HAT
            generalize (more j).s = s at *
            generalize keysX x s.data.toList = x2 at *
            go_wp2_with (first
              | (go_at_call 23; have hq := HKA.out _ hv; (with_reducible refine hq.mono ?_); clear hq; rintro e w4 ⟨rfl, hv⟩; clear q1 a1 a3; obtain ⟨q1, a1, a3⟩ := HR.out _ _ hv)
              | (go_at_call 23; have hq := HKB.out _ _ hv; (with_reducible refine hq.mono ?_); clear hq; rintro e w5 ⟨rfl, hv⟩; clear q1 a1 a3; obtain ⟨q1, a1⟩ := HR2.out _ _ hv))
            go_quiet (fail)
            have hv := hv.to ((Fr.refl [] _).drewN nq)
            clear q1 a1
            obtain ⟨f9, bn, rows, ht⟩ := twin_of W0 c k d q x2
            have TW := Lib.hid ht
            clear ht
            go_wp2_with (first
              | (go_at_call 17; have hq := TW.out.fa _ hv; (with_reducible refine hq.mono ?_); clear hq; rintro e wz ⟨rfl, rfl⟩)
              | (go_at_call 17; have hq := TW.out.fb _ hv; (with_reducible refine hq.mono ?_); clear hq; rintro e wz ⟨rfl, rfl⟩)
              | (go_at_call 20; have hq := TW.out.ba _ hv; (with_reducible refine hq.mono ?_); clear hq; rintro e wz ⟨rfl, rfl⟩)
              | (go_at_call 20; have hq := TW.out.bb _ hv; (with_reducible refine hq.mono ?_); clear hq; rintro e wz ⟨rfl, rfl⟩)
              | (go_at_call 15; have hq := TW.out.sa _ hv; (with_reducible refine hq.mono ?_); clear hq; rintro e w7 ⟨g1, o1, rfl, hs1, hf7⟩; have hv := hv.to hf7; clear hf7)
              | (go_at_call 15; have hq := TW.out.sb _ hv; (with_reducible refine hq.mono ?_); clear hq; rintro e w8 ⟨g2, o2, rfl, hs2, hf8⟩; have hv := hv.to hf8; have hs1 := hs1.to hf8; clear hf8)
              | (go_at_call 14; have hq := TW.out.sm _ _ o1 _ o2 hs1 hs2; (with_reducible refine hq.mono ?_); clear hq; rintro e w9 ⟨rfl, hf9⟩; have HQ := Lib.hid (hv.to hf9); clear hf9 hv hs1 hs2))
            go_roundg (m - (j + 1))
            case measure => have := Hk.out; omega
            case rel => exact ⟨x2, HQ.out, .inr ⟨j + 1, by have := Hk.out; omega, by go_num⟩⟩
          · have e0 : ((more j).kind == 0) = false := beq_eq_false_iff_ne.2 h0
            by_cases h1 : (more j).kind = 1
            · rw [h1] at a1
              have HWA : Hid (∀ W z, Dv W0 W c k d q x z → Calls Tryd.prog 19 #[ptr c, .int .i64 (more j).a, .string (more j).s] W fun e w' => e = .returned (.int .i64 (wrE x (more j).a)) ∧ Dv W0 w' c k d q (write x (more j).a (more j).s.data.toList) z) := Lib.hid fun W z hv => (hv.a.write (more j).a (more j).s hso).mono fun e w' ⟨he, ha, hf⟩ => ⟨he, hv.turnA ha hf⟩
              have HWB : Hid (∀ W z, Dv W0 W c k d q z x → Calls Tryd.prog 19 #[ptr d, .int .i64 (more j).a, .string (more j).s] W fun e w' => e = .returned (.int .i64 (wrE x (more j).a)) ∧ Dv W0 w' c k d q z (write x (more j).a (more j).s.data.toList)) := Lib.hid fun W z hv => (hv.b.write (more j).a (more j).s hso).mono fun e w' ⟨he, ha, hf⟩ => ⟨he, hv.turnB ha hf⟩
              have HR : Hid (∀ W u v, Dv W0 W c k d q u v → W.cell? ⟨w.heap.size, 1, none⟩ = some (.slice (some ⟨b, off, none⟩) m cp) ∧ W.cell? ⟨b, off + j * 4 + 1, none⟩ = some (.int .i64 1) ∧ W.cell? ⟨b, off + j * 4 + 2, none⟩ = some (.int .i64 (more j).a) ∧ W.cell? ⟨b, off + j * 4 + 3, none⟩ = some (.string (more j).s)) := Lib.hid fun W u v hv => by
                obtain ⟨p1, p2, p4, p3⟩ := HAT.out _ hv.a.f
                rw [h1] at p2
                exact ⟨p1, p2, p4, p3⟩
              have kk : wr.cell? ⟨w.heap.size, 1, none⟩ = some (.slice (some ⟨b, off, none⟩) m cp) ∧ wr.cell? ⟨b, off + j * 4 + 1, none⟩ = some (.int .i64 1) ∧ wr.cell? ⟨b, off + j * 4 + 2, none⟩ = some (.int .i64 (more j).a) ∧ wr.cell? ⟨b, off + j * 4 + 3, none⟩ = some (.string (more j).s) := ⟨q1, a1, a2, a3⟩
              have hv0 : Dv W0 wr.drew c k d q x x := hv.to (Fr.refl [] wr).drew
              clear h0 h1 e0 hso HAT hv
              rename Dv W0 wr.drew c k d q x x => hv
              generalize (more j).s = s at *
              generalize (more j).a = a at *
              generalize write x a s.data.toList = x2 at *
              generalize wrE x a = ev at *
              go_wp2_with fail
              go_region_held3 (fun W => W.cell? ⟨w.heap.size, 1, none⟩ = some (.slice (some ⟨b, off, none⟩) m cp) ∧ W.cell? ⟨b, off + j * 4 + 1, none⟩ = some (.int .i64 1) ∧ W.cell? ⟨b, off + j * 4 + 2, none⟩ = some (.int .i64 a) ∧ W.cell? ⟨b, off + j * 4 + 3, none⟩ = some (.string s)) (first | exact kk | go_keep) (first
                | (go_at_call 19; have hq := HWA.out _ _ hv; (with_reducible refine hq.mono ?_); clear hq; rintro e w4 ⟨rfl, hv⟩; have kk := HR.out _ _ _ hv)
                | (go_at_call 19; have hq := HWB.out _ _ hv; (with_reducible refine hq.mono ?_); clear hq; rintro e w4 ⟨rfl, hv⟩; have kk := HR.out _ _ _ hv))
              all_goals (
                clear kk
                obtain ⟨f9, bn, rows, ht⟩ := twin_of W0 c k d q x2
                have TW := Lib.hid ht
                clear ht
                go_wp2_with (first
                  | (go_at_call 17; have hq := TW.out.fa _ hv; (with_reducible refine hq.mono ?_); clear hq; rintro e wz ⟨rfl, rfl⟩)
                  | (go_at_call 17; have hq := TW.out.fb _ hv; (with_reducible refine hq.mono ?_); clear hq; rintro e wz ⟨rfl, rfl⟩)
                  | (go_at_call 20; have hq := TW.out.ba _ hv; (with_reducible refine hq.mono ?_); clear hq; rintro e wz ⟨rfl, rfl⟩)
                  | (go_at_call 20; have hq := TW.out.bb _ hv; (with_reducible refine hq.mono ?_); clear hq; rintro e wz ⟨rfl, rfl⟩)
                  | (go_at_call 15; have hq := TW.out.sa _ hv; (with_reducible refine hq.mono ?_); clear hq; rintro e w7 ⟨g1, o1, rfl, hs1, hf7⟩; have hv := hv.to hf7; clear hf7)
                  | (go_at_call 15; have hq := TW.out.sb _ hv; (with_reducible refine hq.mono ?_); clear hq; rintro e w8 ⟨g2, o2, rfl, hs2, hf8⟩; have hv := hv.to hf8; have hs1 := hs1.to hf8; clear hf8)
                  | (go_at_call 14; have hq := TW.out.sm _ _ o1 _ o2 hs1 hs2; (with_reducible refine hq.mono ?_); clear hq; rintro e w9 ⟨rfl, hf9⟩; have HQ := Lib.hid (hv.to hf9); clear hf9 hv hs1 hs2))
                go_roundg (m - (j + 1))
                case measure => have := Hk.out; omega
                case rel => exact ⟨x2, HQ.out, .inr ⟨j + 1, by have := Hk.out; omega, by go_num⟩⟩
                )
            · have e1 : ((more j).kind == 1) = false := beq_eq_false_iff_ne.2 h1
              clear h0 h1 HAT
              obtain ⟨x2, hx2⟩ : ∃ x2, x2 = x := ⟨_, rfl⟩
              rw [← hx2] at hv
              clear hx2
              generalize (more j).kind = K at *
              go_wp2_with fail
              go_quiet (fail)
              have hv := hv.to ((Fr.refl [] wr).drewN nq)
              clear q1 a1 a2 a3
              obtain ⟨f9, bn, rows, ht⟩ := twin_of W0 c k d q x2
              have TW := Lib.hid ht
              clear ht
              go_wp2_with (first
                | (go_at_call 17; have hq := TW.out.fa _ hv; (with_reducible refine hq.mono ?_); clear hq; rintro e wz ⟨rfl, rfl⟩)
                | (go_at_call 17; have hq := TW.out.fb _ hv; (with_reducible refine hq.mono ?_); clear hq; rintro e wz ⟨rfl, rfl⟩)
                | (go_at_call 20; have hq := TW.out.ba _ hv; (with_reducible refine hq.mono ?_); clear hq; rintro e wz ⟨rfl, rfl⟩)
                | (go_at_call 20; have hq := TW.out.bb _ hv; (with_reducible refine hq.mono ?_); clear hq; rintro e wz ⟨rfl, rfl⟩)
                | (go_at_call 15; have hq := TW.out.sa _ hv; (with_reducible refine hq.mono ?_); clear hq; rintro e w7 ⟨g1, o1, rfl, hs1, hf7⟩; have hv := hv.to hf7; clear hf7)
                | (go_at_call 15; have hq := TW.out.sb _ hv; (with_reducible refine hq.mono ?_); clear hq; rintro e w8 ⟨g2, o2, rfl, hs2, hf8⟩; have hv := hv.to hf8; have hs1 := hs1.to hf8; clear hf8)
                | (go_at_call 14; have hq := TW.out.sm _ _ o1 _ o2 hs1 hs2; (with_reducible refine hq.mono ?_); clear hq; rintro e w9 ⟨rfl, hf9⟩; have HQ := Lib.hid (hv.to hf9); clear hf9 hv hs1 hs2))
              go_roundg (m - (j + 1))
              case measure => have := Hk.out; omega
              case rel => exact ⟨x2, HQ.out, .inr ⟨j + 1, by have := Hk.out; omega, by go_num⟩⟩
        · obtain hjm : j = m := by omega
          rw [hjm] at *
          have hnl : ¬ (m : Int) < (m : Int) := by omega
          obtain ⟨q1, -, -⟩ := HB.out _ hv.a.f
          clear hlt hk Hk
          go_wp2_with fail
          clear q1
          go_loopg [13] n' (fun gg i wr => ∃ (k9 : Nat) (x : Con), k9 + gg = n' ∧ i = .int .i64 k9 ∧ Dv W0 wr c k d q x x)
          case atStart => exact ⟨0, x, by omega, rfl, hv⟩
          case round =>
            clear hv x
            obtain ⟨k9, x, hk9, rfl, hv⟩ := hrel
            have Hk := Lib.hid hk9
            by_cases hlt : k9 < n'
            · have hlt' : (k9 : Int) < (n' : Int) := by omega
              have HTA : Hid (∀ W, Dv W0 W c k d q x x → Calls Tryd.prog 12 #[ptr c, .int .i64 (k9 : Int)] W fun e w' => e = .returned (.tuple #[.string (takeS x k9), .int .i64 (wrE x k9)]) ∧ Dv W0 w' c k d q (takeX x k9) x) := Lib.hid fun W hv => (hv.a.take (k9 : Int)).mono fun e w' ⟨he, ha, hf⟩ => ⟨he, hv.turnA ha hf⟩
              have HTB : Hid (∀ W z, Dv W0 W c k d q z x → Calls Tryd.prog 12 #[ptr d, .int .i64 (k9 : Int)] W fun e w' => e = .returned (.tuple #[.string (takeS x k9), .int .i64 (wrE x k9)]) ∧ Dv W0 w' c k d q z (takeX x k9)) := Lib.hid fun W z hv => (hv.b.take (k9 : Int)).mono fun e w' ⟨he, ha, hf⟩ => ⟨he, hv.turnB ha hf⟩
              generalize takeX x (k9 : Int) = x2 at *
              generalize takeS x (k9 : Int) = ts at *
              generalize wrE x (k9 : Int) = ev at *
              clear hk9
              go_wp2_with (first
                | (go_at_call 12; have hq := HTA.out _ hv; (with_reducible refine hq.mono ?_); clear hq; rintro e w4 ⟨rfl, hv⟩)
                | (go_at_call 12; have hq := HTB.out _ _ hv; (with_reducible refine hq.mono ?_); clear hq; rintro e w5 ⟨rfl, hv⟩; have HQ := Lib.hid hv; clear hv))
              go_roundg (n' - (k9 + 1))
              case measure => have := Hk.out; omega
              case rel => exact ⟨k9 + 1, x2, by have := Hk.out; omega, by go_num, HQ.out⟩
            · obtain hkn : k9 = n' := by omega
              have hnl : ¬ (k9 : Int) < (n' : Int) := by omega
              have HZ := Lib.hid (HF0.out.trans hv.a.f)
              clear hv hk9 Hk
              go_wp2_with (go_at_call 11; refine (HX.out _).mono ?_; rintro e w9 ⟨rfl, hf9⟩; have HP := Lib.hid (HZ.out.trans hf9); clear hf9)
              go_ret
              exact ⟨rfl, HP.out⟩
theorem hides_walk (w : World) (lv : Int) (lg : ByteArray) (hs : lg.size ≤ maxLen) (A : Option Addr) (n cap : Nat) (ops : Nat → OpC) (ho : OpsC w A n ops) (B : Option Addr) (m cp : Nat) (more : Nat → OpC) (hm : OpsC w B m more) (lev : Int) (hl0 : -9223372036854775808 ≤ lev) (hl1 : lev ≤ 9223372036854775807) (S : ByteArray) (hS : S.size ≤ maxLen) : Calls Tryd.prog 8 #[.int .i64 lv, .string lg, .agg #[.slice A n cap, .slice B m cp, .int .i64 lev, .string S]] w (FixP w) := by
  cases h : okNew lv lg with
  | false => exact hides_no w lv lg hs A n cap _ _ _ rfl rfl rfl h
  | true =>
    obtain ⟨L, rfl, -⟩ := okNew_spec h
    exact hides_yes w L lg A n cap ops ho B m cp more hm lev hl0 hl1 S hS h
end Go.Proofs.YtkjahokffpihmaaDoor

/- The screen: a byte drawn; bytes said. -/
import Derived.Test.YtkjahokffpihmaaDoorC4
namespace Go.Proofs.YtkjahokffpihmaaDoor
open Go.RowKit
set_option linter.unusedVariables false
set_option linter.unusedSimpArgs false
set_option maxRecDepth 100000
theorem vis_lo {b : UInt8} (h : b.toNat < 32) : vis b = 63 := by unfold vis; rw [if_pos]; simp [UInt8.lt_iff_toNat_lt, h]
theorem vis_hi {b : UInt8} (h : 126 < b.toNat) : vis b = 63 := by unfold vis; rw [if_pos]; simp [UInt8.lt_iff_toNat_lt, h]
theorem vis_in {b : UInt8} (h : 32 ≤ b.toNat) (h' : b.toNat ≤ 126) : vis b = b := by unfold vis; rw [if_neg]; simp [UInt8.lt_iff_toNat_lt]; omega
theorem sdraw_lf (s : Sc) {b : UInt8} (h : b.toNat = 10) : sdraw s b = sfeed s := by
  have : b = 10 := UInt8.toNat_inj.1 (by simpa using h)
  unfold sdraw
  rw [if_pos this]
theorem sdraw_ne (s : Sc) {b : UInt8} (h : b.toNat ≠ 10) : sdraw s b = sput (swrap s) (vis b) := by
  unfold sdraw
  rw [if_neg]
  rintro rfl
  exact h rfl
/-- A byte put at the cursor: the two stores. -/
theorem put_at {w : World} {c : Nat} {H : Array Value} {s : Sc} (h : Blk w c 70 (scells H s)) (hl : s.ln ≤ 5) (hc : s.cl < 24) (v : UInt8) :
    Blk ((w.setCell ⟨c, 6 + s.ln * 24 + s.cl, none⟩ (.int .u8 (v.toNat : Int))).setCell ⟨c, 151, none⟩ (.int .i64 ((s.cl : Int) + 1))) c 70 (scells H (sput s v)) ∧
      Fr [c] w ((w.setCell ⟨c, 6 + s.ln * 24 + s.cl, none⟩ (.int .u8 (v.toNat : Int))).setCell ⟨c, 151, none⟩ (.int .i64 ((s.cl : Int) + 1))) := by
  refine ⟨?_, ((Fr.refl [c] w).setCell (by simp) _).setCell (by simp) _⟩
  have h1 := setbyte h (p := s.ln * 24 + s.cl) (by omega) v
  have h2 := setcl h1 (s.cl + 1)
  rw [show 6 + s.ln * 24 + s.cl = 6 + (s.ln * 24 + s.cl) by omega, show ((s.cl : Int) + 1) = ((s.cl + 1 : Nat) : Int) by omega]
  exact h2
theorem put_cells {w : World} {c : Nat} {H : Array Value} {s : Sc} (h : Blk w c 70 (scells H s)) (hl : s.ln ≤ 5) (hc : s.cl < 24) :
    w.cell? ⟨c, 150, none⟩ = some (.int .i64 (s.ln : Int)) ∧ w.cell? ⟨c, 151, none⟩ = some (.int .i64 (s.cl : Int)) ∧ w.cell? ⟨c, 6 + s.ln * 24 + s.cl, none⟩ = some (.int .u8 ((s.g (s.ln * 24 + s.cl)).toNat : Int)) ∧
      w.frozen? ⟨c, 6 + s.ln * 24 + s.cl, none⟩ = false ∧ w.frozen? ⟨c, 151, none⟩ = false ∧ (∀ v, (w.setCell ⟨c, 6 + s.ln * 24 + s.cl, none⟩ v).cell? ⟨c, 150, none⟩ = some (.int .i64 (s.ln : Int))) ∧ (∀ v, (w.setCell ⟨c, 6 + s.ln * 24 + s.cl, none⟩ v).cell? ⟨c, 151, none⟩ = some (.int .i64 (s.cl : Int))) := by
  refine ⟨sc_ln h, sc_cl h, ?_, h.frozen _, h.frozen _, fun v => ?_, fun v => ?_⟩
  · skip
    rw [show 6 + s.ln * 24 + s.cl = 6 + (s.ln * 24 + s.cl) by omega]
    exact sc_byte h (by omega)
  · rw [World.cell?_setCell_other _ _ _ _ (by intro e; injection e with _ e _; omega)]
    exact sc_ln h
  · rw [World.cell?_setCell_other _ _ _ _ (by intro e; injection e with _ e _; omega)]
    exact sc_cl h
def DrawP (w : World) (c : Nat) (H : Array Value) (s : Sc) (e : Ending) (w' : World) : Prop := ScP w c H s e w'
set_option maxHeartbeats 4000000 in
theorem sdraw_any (w : World) (c : Nat) (H : Array Value) (hH : Hd H) (s : Sc) (hs : s.Ok) (h : Blk w c 70 (scells H s)) (b : UInt8) : Calls Tryd.prog 58 #[sptr c, .int .u8 (b.toNat : Int)] w (ScP w c H (sdraw s b)) := by
  have HC := Lib.hid (sfeed_any w c H hH s hs h)
  have hb0 : (0 : Int) ≤ (b.toNat : Int) := by omega
  have hb1 : (b.toNat : Int) < 256 := by have := UInt8.toNat_lt b; omega
  have hw := swrap_ok hs
  by_cases h10 : b.toNat = 10
  · have e1 : (((b.toNat : Nat) : Int) == 10) = true := by rw [h10]; rfl
    rw [sdraw_lf s h10]
    clear h10 h hs hw
    generalize (b.toNat : Int) = B at *
    go_enter Tryd.func58, Tryd.ntmps58
    go_wp2_with (go_at_call 68; refine HC.out.mono ?_; rintro e w1 ⟨rfl, b1, f1⟩; have HQ := Lib.hid (And.intro b1 f1); clear b1 f1)
    refine bodyPost_ret (results_none rfl _ _ _) rfl ?_
    exact ⟨rfl, HQ.out.1, HQ.out.2⟩
  · have e1 : (((b.toNat : Nat) : Int) == 10) = false := beq_eq_false_iff_ne.2 (by omega)
    rw [sdraw_ne s h10]
    by_cases h24 : s.cl = 24
    · skip
      by_cases hv : b.toNat < 32
      · have d1 : (b.toNat : Int) < 32 := by omega
        have hvis := vis_lo hv
        rw [hvis]
        obtain ⟨s1, hs1⟩ : ∃ s1, sfeed s = s1 := ⟨_, rfl⟩
        have hsw : swrap s = s1 := by unfold swrap; rw [if_pos h24, hs1]
        rw [hsw] at hw ⊢
        rw [hs1] at HC
        have c151 := sc_cl h
        rw [h24] at c151
        have HW := Lib.hid hw
        clear hsw hs1 hvis hw h hs h10 h24
        clear hv
        go_enter Tryd.func58, Tryd.ntmps58
        go_wp2_with (go_at_call 68; refine HC.out.mono ?_; rintro e w1 ⟨rfl, b1, f1⟩; obtain ⟨p1, p2, p3, p4, p5, p6, p7⟩ := put_cells b1 HW.out.1 HW.out.2; have hP := Lib.hid (put_at b1 HW.out.1 HW.out.2 63); have i1 : (s1.ln : Int) < 6 := (by have := HW.out.1; omega); have i2 : (s1.cl : Int) < 24 := (by have := HW.out.2; omega); have HF := Lib.hid f1; clear b1 f1 HW; generalize sput s1 63 = s2 at *; generalize s1.ln = L at *; generalize s1.cl = C at *)
        go_region_held3 (fun W => W.cell? ⟨c, 150, none⟩ = some (.int .i64 (L : Int)) ∧ W.cell? ⟨c, 151, none⟩ = some (.int .i64 (C : Int))) (first | exact ⟨p1, p2⟩ | exact ⟨p6 _, p7 _⟩ | go_keep) (fail)
        go_wp2_with fail
        go_end0
        exact ⟨rfl, hP.out.1, HF.out.trans hP.out.2.drew⟩
      · by_cases hv2 : 126 < b.toNat
        · have d1 : ¬ (b.toNat : Int) < 32 := by omega
          have d2 : (126 : Int) < (b.toNat : Int) := by omega
          have hvis := vis_hi hv2
          rw [hvis]
          obtain ⟨s1, hs1⟩ : ∃ s1, sfeed s = s1 := ⟨_, rfl⟩
          have hsw : swrap s = s1 := by unfold swrap; rw [if_pos h24, hs1]
          rw [hsw] at hw ⊢
          rw [hs1] at HC
          have c151 := sc_cl h
          rw [h24] at c151
          have HW := Lib.hid hw
          clear hsw hs1 hvis hw h hs h10 h24
          clear hv hv2
          go_enter Tryd.func58, Tryd.ntmps58
          go_wp2_with (go_at_call 68; refine HC.out.mono ?_; rintro e w1 ⟨rfl, b1, f1⟩; obtain ⟨p1, p2, p3, p4, p5, p6, p7⟩ := put_cells b1 HW.out.1 HW.out.2; have hP := Lib.hid (put_at b1 HW.out.1 HW.out.2 63); have i1 : (s1.ln : Int) < 6 := (by have := HW.out.1; omega); have i2 : (s1.cl : Int) < 24 := (by have := HW.out.2; omega); have HF := Lib.hid f1; clear b1 f1 HW; generalize sput s1 63 = s2 at *; generalize s1.ln = L at *; generalize s1.cl = C at *)
          go_region_held3 (fun W => W.cell? ⟨c, 150, none⟩ = some (.int .i64 (L : Int)) ∧ W.cell? ⟨c, 151, none⟩ = some (.int .i64 (C : Int))) (first | exact ⟨p1, p2⟩ | exact ⟨p6 _, p7 _⟩ | go_keep) (fail)
          go_wp2_with fail
          go_end0
          exact ⟨rfl, hP.out.1, HF.out.trans hP.out.2.drew⟩
        · have d1 : ¬ (b.toNat : Int) < 32 := by omega
          have d2 : ¬ (126 : Int) < (b.toNat : Int) := by omega
          have hvis := vis_in (b := b) (by omega) (by omega)
          rw [hvis]
          obtain ⟨s1, hs1⟩ : ∃ s1, sfeed s = s1 := ⟨_, rfl⟩
          have hsw : swrap s = s1 := by unfold swrap; rw [if_pos h24, hs1]
          rw [hsw] at hw ⊢
          rw [hs1] at HC
          have c151 := sc_cl h
          rw [h24] at c151
          have HW := Lib.hid hw
          clear hsw hs1 hvis hw h hs h10 h24
          clear hv hv2
          go_enter Tryd.func58, Tryd.ntmps58
          go_wp2_with (go_at_call 68; refine HC.out.mono ?_; rintro e w1 ⟨rfl, b1, f1⟩; obtain ⟨p1, p2, p3, p4, p5, p6, p7⟩ := put_cells b1 HW.out.1 HW.out.2; have hP := Lib.hid (put_at b1 HW.out.1 HW.out.2 b); have i1 : (s1.ln : Int) < 6 := (by have := HW.out.1; omega); have i2 : (s1.cl : Int) < 24 := (by have := HW.out.2; omega); have HF := Lib.hid f1; clear b1 f1 HW; generalize sput s1 b = s2 at *; generalize s1.ln = L at *; generalize s1.cl = C at *)
          go_region_held3 (fun W => W.cell? ⟨c, 150, none⟩ = some (.int .i64 (L : Int)) ∧ W.cell? ⟨c, 151, none⟩ = some (.int .i64 (C : Int))) (first | exact ⟨p1, p2⟩ | exact ⟨p6 _, p7 _⟩ | go_keep) (fail)
          go_wp2_with fail
          go_end0
          exact ⟨rfl, hP.out.1, HF.out.trans hP.out.2.drew⟩
    · skip
      by_cases hv : b.toNat < 32
      · have d1 : (b.toNat : Int) < 32 := by omega
        have hvis := vis_lo hv
        rw [hvis]
        have hsw : swrap s = s := by unfold swrap; rw [if_neg h24]
        rw [hsw] at hw ⊢
        obtain ⟨p1, p2, p3, p4, p5, p6, p7⟩ := put_cells h hw.1 hw.2
        have hP := Lib.hid (put_at h hw.1 hw.2 63)
        have i1 : (s.ln : Int) < 6 := by omega
        have i2 : (s.cl : Int) < 24 := by omega
        have i3 : ((s.cl : Int) == 24) = false := beq_eq_false_iff_ne.2 (by omega)
        have HN := Lib.hid hw
        generalize sput s 63 = s2 at *
        clear hsw hvis hw h hs h10 h24 HC HN
        generalize s.ln = L at *
        generalize s.cl = C at *
        clear hv
        go_enter Tryd.func58, Tryd.ntmps58
        go_wp2_with fail
        go_region_held3 (fun W => W.cell? ⟨c, 150, none⟩ = some (.int .i64 (L : Int)) ∧ W.cell? ⟨c, 151, none⟩ = some (.int .i64 (C : Int))) (first | exact ⟨p1, p2⟩ | exact ⟨p6 _, p7 _⟩ | go_keep) (fail)
        go_wp2_with fail
        go_end0
        exact ⟨rfl, hP.out.1, hP.out.2.drew⟩
      · by_cases hv2 : 126 < b.toNat
        · have d1 : ¬ (b.toNat : Int) < 32 := by omega
          have d2 : (126 : Int) < (b.toNat : Int) := by omega
          have hvis := vis_hi hv2
          rw [hvis]
          have hsw : swrap s = s := by unfold swrap; rw [if_neg h24]
          rw [hsw] at hw ⊢
          obtain ⟨p1, p2, p3, p4, p5, p6, p7⟩ := put_cells h hw.1 hw.2
          have hP := Lib.hid (put_at h hw.1 hw.2 63)
          have i1 : (s.ln : Int) < 6 := by omega
          have i2 : (s.cl : Int) < 24 := by omega
          have i3 : ((s.cl : Int) == 24) = false := beq_eq_false_iff_ne.2 (by omega)
          have HN := Lib.hid hw
          generalize sput s 63 = s2 at *
          clear hsw hvis hw h hs h10 h24 HC HN
          generalize s.ln = L at *
          generalize s.cl = C at *
          clear hv hv2
          go_enter Tryd.func58, Tryd.ntmps58
          go_wp2_with fail
          go_region_held3 (fun W => W.cell? ⟨c, 150, none⟩ = some (.int .i64 (L : Int)) ∧ W.cell? ⟨c, 151, none⟩ = some (.int .i64 (C : Int))) (first | exact ⟨p1, p2⟩ | exact ⟨p6 _, p7 _⟩ | go_keep) (fail)
          go_wp2_with fail
          go_end0
          exact ⟨rfl, hP.out.1, hP.out.2.drew⟩
        · have d1 : ¬ (b.toNat : Int) < 32 := by omega
          have d2 : ¬ (126 : Int) < (b.toNat : Int) := by omega
          have hvis := vis_in (b := b) (by omega) (by omega)
          rw [hvis]
          have hsw : swrap s = s := by unfold swrap; rw [if_neg h24]
          rw [hsw] at hw ⊢
          obtain ⟨p1, p2, p3, p4, p5, p6, p7⟩ := put_cells h hw.1 hw.2
          have hP := Lib.hid (put_at h hw.1 hw.2 b)
          have i1 : (s.ln : Int) < 6 := by omega
          have i2 : (s.cl : Int) < 24 := by omega
          have i3 : ((s.cl : Int) == 24) = false := beq_eq_false_iff_ne.2 (by omega)
          have HN := Lib.hid hw
          generalize sput s b = s2 at *
          clear hsw hvis hw h hs h10 h24 HC HN
          generalize s.ln = L at *
          generalize s.cl = C at *
          clear hv hv2
          go_enter Tryd.func58, Tryd.ntmps58
          go_wp2_with fail
          go_region_held3 (fun W => W.cell? ⟨c, 150, none⟩ = some (.int .i64 (L : Int)) ∧ W.cell? ⟨c, 151, none⟩ = some (.int .i64 (C : Int))) (first | exact ⟨p1, p2⟩ | exact ⟨p6 _, p7 _⟩ | go_keep) (fail)
          go_wp2_with fail
          go_end0
          exact ⟨rfl, hP.out.1, hP.out.2.drew⟩
end Go.Proofs.YtkjahokffpihmaaDoor

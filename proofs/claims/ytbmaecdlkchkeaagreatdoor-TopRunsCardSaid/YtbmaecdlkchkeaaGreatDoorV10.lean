/- The machine's step: reckonings. -/
import Derived.Test.YtbmaecdlkchkeaaGreatDoorV9
import Derived.Deep.RegionLaw
namespace Go.Proofs.YtbmaecdlkchkeaaGreatDoor
open Go.RowKit
set_option linter.unusedVariables false
set_option linter.unusedSimpArgs false
set_option maxRecDepth 100000
set_option maxHeartbeats 4000000 in
theorem step_4 (v p F bt mm cap : Nat) (x : Vm) (st : St) (A : Option Addr) (t : List Pg) (w : World) (hv : VmAt w v x) (hm : MemAt w p F st) (ht : Tb w bt (.slice A mm cap) t) (hbw : bt < w.heap.size) (a b : Nat) (m : Int) (ha : a < 16) (hb : b < 16) (hf : fetI x st t = (⟨4, a, b, m⟩, 0)) :
    Calls Tryz.prog 11 #[ptr v, ptr p, .slice A mm cap] w (StepQ w v p F (0, 0) (putP (putR x a (sumV 4 (x.r a) (x.r b))) ((x.pl + 4) % 4294967296)) st) := by
  have HFe := Lib.hid (fetched hv hm ht hbw)
  rw [hf] at HFe
  have HT := Lib.hid (fun n W => trapped_any n W)
  have ka : 0 ≤ x.r a ∧ x.r a < 4294967296 := hv.r a
  have kb : 0 ≤ x.r b ∧ x.r b < 4294967296 := hv.r b
  have kp : 0 ≤ x.pl ∧ x.pl < 4294967296 := hv.p
  have hvl := hv.lt
  have HS1 := Lib.hid (fun W => sums_4 W)
  have HS2 := Lib.hid (fun W => sum_4 (x.r a) (x.r b) ka.1 ka.2 kb.1 kb.2 W)
  have hsv := sumV_u32 4 (by unfold isSum; simp) ka kb
  obtain ⟨X, hX⟩ : ∃ X, (putP (putR x a (sumV 4 (x.r a) (x.r b))) ((x.pl + 4) % 4294967296)) = X := ⟨_, rfl⟩
  rw [hX]
  have HX := Lib.hid hX
  clear hX
  generalize sumV 4 (x.r a) (x.r b) = SV at *
  clear hv hm ht hf
  go_enter Tryz.func11, Tryz.ntmps11
  go_wp2
  refine scope_step rfl w v p F w.heap.size (0, 0) X st _ _ ?_
  go_wp2_with (first
    | (go_at_call 41; refine HFe.out.mono ?_; rintro e w1 ⟨rfl, hM, hT, hT2, hF⟩; have c0 := hM.hv.reg ha; have c1 := hM.hv.reg hb; have cp := hM.hv.place; have cw := hM.hv.waits; have cf := hM.hv.frozen; have hv2 : v < w1.heap.size := hM.hv.lt; have e0 : w1.cell? ⟨w.heap.size, 0, none⟩ = some (.int .i64 0) := hM.hb.cell 0; have e1 : w1.cell? ⟨w.heap.size, 1, none⟩ = some (.int .i64 0) := hM.hb.cell 1; have ef := hM.hb.frozen; have el : w.heap.size < w1.heap.size := hM.hb.lt; have HM := Lib.hid hM; have HTb := Lib.hid (And.intro hT hT2); have HF := Lib.hid hF; clear hM hT hT2 hF HFe)
    | fail)
  go_quiet (fail)
  go_wp2_with fail
  have HK := Lib.hid (fun q W (hf : Fr [] ((w1.alloc (.cells #[.int .i64 4, .int .i64 (a : Int), .int .i64 (b : Int), .int .i64 m] 55)).drewN q) W) => (show W.cell? ⟨v, a, none⟩ = some (.int .u32 (x.r a)) ∧ W.cell? ⟨w1.heap.size, 0, none⟩ = some (.int .i64 4) from ⟨(((Fr.refl [] w1).alloc _).drewN q |>.trans hf).cell_some c0 (by simp), hf.cell_some (((Blk.new w1 55 _).drewN q).cell 0) (by simp)⟩))
  have HZ := Lib.hid (fun q W (hf : Fr [] ((w1.alloc (.cells #[.int .i64 4, .int .i64 (a : Int), .int .i64 (b : Int), .int .i64 m] 55)).drewN q) W) => (show ∀ i, W.frozen? ⟨v, i, none⟩ = false from (HM.out.fr (((Fr.refl [] w1).alloc _).drewN q |>.trans hf)).hv.frozen))
  have HZ1 := Lib.hid (fun q W (hf : Fr [] ((w1.alloc (.cells #[.int .i64 4, .int .i64 (a : Int), .int .i64 (b : Int), .int .i64 m] 55)).drewN q) W) => (show Mid w v p F w.heap.size x st W from HM.out.fr (((Fr.refl [] w1).alloc _).drewN q |>.trans hf)))
  go_region_law (first
    | (go_simp; go_at_call 43; (with_reducible refine (HS1.out _).mono ?_); rintro e w2 ⟨rfl, hf⟩
       have kk := HK.out _ _ ((Fr.refl [] _).drew.trans hf)
       obtain ⟨kk1, kk2⟩ := kk
       have kz := HZ.out _ _ ((Fr.refl [] _).drew.trans hf)
       have kw := HZ1.out _ _ ((Fr.refl [] _).drew.trans hf))
    | (go_simp; go_at_call 63; (with_reducible refine (HS2.out _).mono ?_); rintro e w3 ⟨rfl, rfl⟩)
    | fail)
  all_goals
    go_wp2_with fail
    have hnx : u32b ((x.pl + 4) % 4294967296) := by unfold u32b; omega
    refine wp_goto ?_
    have M := kw.put ha hsv
    exact ⟨_, rfl, rfl, rfl, rfl, ((x.pl + 4) % 4294967296), putR x a SV, rfl, hnx, M.hv, HX.out, M.hm, M.hf, M.hb, M.he⟩
set_option maxHeartbeats 4000000 in
theorem step_5 (v p F bt mm cap : Nat) (x : Vm) (st : St) (A : Option Addr) (t : List Pg) (w : World) (hv : VmAt w v x) (hm : MemAt w p F st) (ht : Tb w bt (.slice A mm cap) t) (hbw : bt < w.heap.size) (a b : Nat) (m : Int) (ha : a < 16) (hb : b < 16) (hf : fetI x st t = (⟨5, a, b, m⟩, 0)) :
    Calls Tryz.prog 11 #[ptr v, ptr p, .slice A mm cap] w (StepQ w v p F (0, 0) (putP (putR x a (sumV 5 (x.r a) (x.r b))) ((x.pl + 4) % 4294967296)) st) := by
  have HFe := Lib.hid (fetched hv hm ht hbw)
  rw [hf] at HFe
  have HT := Lib.hid (fun n W => trapped_any n W)
  have ka : 0 ≤ x.r a ∧ x.r a < 4294967296 := hv.r a
  have kb : 0 ≤ x.r b ∧ x.r b < 4294967296 := hv.r b
  have kp : 0 ≤ x.pl ∧ x.pl < 4294967296 := hv.p
  have hvl := hv.lt
  have HS1 := Lib.hid (fun W => sums_5 W)
  have HS2 := Lib.hid (fun W => sum_5 (x.r a) (x.r b) ka.1 ka.2 kb.1 kb.2 W)
  have hsv := sumV_u32 5 (by unfold isSum; simp) ka kb
  obtain ⟨X, hX⟩ : ∃ X, (putP (putR x a (sumV 5 (x.r a) (x.r b))) ((x.pl + 4) % 4294967296)) = X := ⟨_, rfl⟩
  rw [hX]
  have HX := Lib.hid hX
  clear hX
  generalize sumV 5 (x.r a) (x.r b) = SV at *
  clear hv hm ht hf
  go_enter Tryz.func11, Tryz.ntmps11
  go_wp2
  refine scope_step rfl w v p F w.heap.size (0, 0) X st _ _ ?_
  go_wp2_with (first
    | (go_at_call 41; refine HFe.out.mono ?_; rintro e w1 ⟨rfl, hM, hT, hT2, hF⟩; have c0 := hM.hv.reg ha; have c1 := hM.hv.reg hb; have cp := hM.hv.place; have cw := hM.hv.waits; have cf := hM.hv.frozen; have hv2 : v < w1.heap.size := hM.hv.lt; have e0 : w1.cell? ⟨w.heap.size, 0, none⟩ = some (.int .i64 0) := hM.hb.cell 0; have e1 : w1.cell? ⟨w.heap.size, 1, none⟩ = some (.int .i64 0) := hM.hb.cell 1; have ef := hM.hb.frozen; have el : w.heap.size < w1.heap.size := hM.hb.lt; have HM := Lib.hid hM; have HTb := Lib.hid (And.intro hT hT2); have HF := Lib.hid hF; clear hM hT hT2 hF HFe)
    | fail)
  go_quiet (fail)
  go_wp2_with fail
  have HK := Lib.hid (fun q W (hf : Fr [] ((w1.alloc (.cells #[.int .i64 5, .int .i64 (a : Int), .int .i64 (b : Int), .int .i64 m] 55)).drewN q) W) => (show W.cell? ⟨v, a, none⟩ = some (.int .u32 (x.r a)) ∧ W.cell? ⟨w1.heap.size, 0, none⟩ = some (.int .i64 5) from ⟨(((Fr.refl [] w1).alloc _).drewN q |>.trans hf).cell_some c0 (by simp), hf.cell_some (((Blk.new w1 55 _).drewN q).cell 0) (by simp)⟩))
  have HZ := Lib.hid (fun q W (hf : Fr [] ((w1.alloc (.cells #[.int .i64 5, .int .i64 (a : Int), .int .i64 (b : Int), .int .i64 m] 55)).drewN q) W) => (show ∀ i, W.frozen? ⟨v, i, none⟩ = false from (HM.out.fr (((Fr.refl [] w1).alloc _).drewN q |>.trans hf)).hv.frozen))
  have HZ1 := Lib.hid (fun q W (hf : Fr [] ((w1.alloc (.cells #[.int .i64 5, .int .i64 (a : Int), .int .i64 (b : Int), .int .i64 m] 55)).drewN q) W) => (show Mid w v p F w.heap.size x st W from HM.out.fr (((Fr.refl [] w1).alloc _).drewN q |>.trans hf)))
  go_region_law (first
    | (go_simp; go_at_call 43; (with_reducible refine (HS1.out _).mono ?_); rintro e w2 ⟨rfl, hf⟩
       have kk := HK.out _ _ ((Fr.refl [] _).drew.trans hf)
       obtain ⟨kk1, kk2⟩ := kk
       have kz := HZ.out _ _ ((Fr.refl [] _).drew.trans hf)
       have kw := HZ1.out _ _ ((Fr.refl [] _).drew.trans hf))
    | (go_simp; go_at_call 64; (with_reducible refine (HS2.out _).mono ?_); rintro e w3 ⟨rfl, rfl⟩)
    | fail)
  all_goals
    go_wp2_with fail
    have hnx : u32b ((x.pl + 4) % 4294967296) := by unfold u32b; omega
    refine wp_goto ?_
    have M := kw.put ha hsv
    exact ⟨_, rfl, rfl, rfl, rfl, ((x.pl + 4) % 4294967296), putR x a SV, rfl, hnx, M.hv, HX.out, M.hm, M.hf, M.hb, M.he⟩
set_option maxHeartbeats 4000000 in
theorem step_6 (v p F bt mm cap : Nat) (x : Vm) (st : St) (A : Option Addr) (t : List Pg) (w : World) (hv : VmAt w v x) (hm : MemAt w p F st) (ht : Tb w bt (.slice A mm cap) t) (hbw : bt < w.heap.size) (a b : Nat) (m : Int) (ha : a < 16) (hb : b < 16) (hf : fetI x st t = (⟨6, a, b, m⟩, 0)) :
    Calls Tryz.prog 11 #[ptr v, ptr p, .slice A mm cap] w (StepQ w v p F (0, 0) (putP (putR x a (sumV 6 (x.r a) (x.r b))) ((x.pl + 4) % 4294967296)) st) := by
  have HFe := Lib.hid (fetched hv hm ht hbw)
  rw [hf] at HFe
  have HT := Lib.hid (fun n W => trapped_any n W)
  have ka : 0 ≤ x.r a ∧ x.r a < 4294967296 := hv.r a
  have kb : 0 ≤ x.r b ∧ x.r b < 4294967296 := hv.r b
  have kp : 0 ≤ x.pl ∧ x.pl < 4294967296 := hv.p
  have hvl := hv.lt
  have HS1 := Lib.hid (fun W => sums_6 W)
  have HS2 := Lib.hid (fun W => sum_6 (x.r a) (x.r b) ka.1 ka.2 kb.1 kb.2 W)
  have hsv := sumV_u32 6 (by unfold isSum; simp) ka kb
  obtain ⟨X, hX⟩ : ∃ X, (putP (putR x a (sumV 6 (x.r a) (x.r b))) ((x.pl + 4) % 4294967296)) = X := ⟨_, rfl⟩
  rw [hX]
  have HX := Lib.hid hX
  clear hX
  generalize sumV 6 (x.r a) (x.r b) = SV at *
  clear hv hm ht hf
  go_enter Tryz.func11, Tryz.ntmps11
  go_wp2
  refine scope_step rfl w v p F w.heap.size (0, 0) X st _ _ ?_
  go_wp2_with (first
    | (go_at_call 41; refine HFe.out.mono ?_; rintro e w1 ⟨rfl, hM, hT, hT2, hF⟩; have c0 := hM.hv.reg ha; have c1 := hM.hv.reg hb; have cp := hM.hv.place; have cw := hM.hv.waits; have cf := hM.hv.frozen; have hv2 : v < w1.heap.size := hM.hv.lt; have e0 : w1.cell? ⟨w.heap.size, 0, none⟩ = some (.int .i64 0) := hM.hb.cell 0; have e1 : w1.cell? ⟨w.heap.size, 1, none⟩ = some (.int .i64 0) := hM.hb.cell 1; have ef := hM.hb.frozen; have el : w.heap.size < w1.heap.size := hM.hb.lt; have HM := Lib.hid hM; have HTb := Lib.hid (And.intro hT hT2); have HF := Lib.hid hF; clear hM hT hT2 hF HFe)
    | fail)
  go_quiet (fail)
  go_wp2_with fail
  have HK := Lib.hid (fun q W (hf : Fr [] ((w1.alloc (.cells #[.int .i64 6, .int .i64 (a : Int), .int .i64 (b : Int), .int .i64 m] 55)).drewN q) W) => (show W.cell? ⟨v, a, none⟩ = some (.int .u32 (x.r a)) ∧ W.cell? ⟨w1.heap.size, 0, none⟩ = some (.int .i64 6) from ⟨(((Fr.refl [] w1).alloc _).drewN q |>.trans hf).cell_some c0 (by simp), hf.cell_some (((Blk.new w1 55 _).drewN q).cell 0) (by simp)⟩))
  have HZ := Lib.hid (fun q W (hf : Fr [] ((w1.alloc (.cells #[.int .i64 6, .int .i64 (a : Int), .int .i64 (b : Int), .int .i64 m] 55)).drewN q) W) => (show ∀ i, W.frozen? ⟨v, i, none⟩ = false from (HM.out.fr (((Fr.refl [] w1).alloc _).drewN q |>.trans hf)).hv.frozen))
  have HZ1 := Lib.hid (fun q W (hf : Fr [] ((w1.alloc (.cells #[.int .i64 6, .int .i64 (a : Int), .int .i64 (b : Int), .int .i64 m] 55)).drewN q) W) => (show Mid w v p F w.heap.size x st W from HM.out.fr (((Fr.refl [] w1).alloc _).drewN q |>.trans hf)))
  go_region_law (first
    | (go_simp; go_at_call 43; (with_reducible refine (HS1.out _).mono ?_); rintro e w2 ⟨rfl, hf⟩
       have kk := HK.out _ _ ((Fr.refl [] _).drew.trans hf)
       obtain ⟨kk1, kk2⟩ := kk
       have kz := HZ.out _ _ ((Fr.refl [] _).drew.trans hf)
       have kw := HZ1.out _ _ ((Fr.refl [] _).drew.trans hf))
    | (go_simp; go_at_call 65; (with_reducible refine (HS2.out _).mono ?_); rintro e w3 ⟨rfl, rfl⟩)
    | fail)
  all_goals
    go_wp2_with fail
    have hnx : u32b ((x.pl + 4) % 4294967296) := by unfold u32b; omega
    refine wp_goto ?_
    have M := kw.put ha hsv
    exact ⟨_, rfl, rfl, rfl, rfl, ((x.pl + 4) % 4294967296), putR x a SV, rfl, hnx, M.hv, HX.out, M.hm, M.hf, M.hb, M.he⟩
set_option maxHeartbeats 4000000 in
theorem step_7 (v p F bt mm cap : Nat) (x : Vm) (st : St) (A : Option Addr) (t : List Pg) (w : World) (hv : VmAt w v x) (hm : MemAt w p F st) (ht : Tb w bt (.slice A mm cap) t) (hbw : bt < w.heap.size) (a b : Nat) (m : Int) (ha : a < 16) (hb : b < 16) (hf : fetI x st t = (⟨7, a, b, m⟩, 0)) :
    Calls Tryz.prog 11 #[ptr v, ptr p, .slice A mm cap] w (StepQ w v p F (0, 0) (putP (putR x a (sumV 7 (x.r a) (x.r b))) ((x.pl + 4) % 4294967296)) st) := by
  have HFe := Lib.hid (fetched hv hm ht hbw)
  rw [hf] at HFe
  have HT := Lib.hid (fun n W => trapped_any n W)
  have ka : 0 ≤ x.r a ∧ x.r a < 4294967296 := hv.r a
  have kb : 0 ≤ x.r b ∧ x.r b < 4294967296 := hv.r b
  have kp : 0 ≤ x.pl ∧ x.pl < 4294967296 := hv.p
  have hvl := hv.lt
  have HS1 := Lib.hid (fun W => sums_7 W)
  have HS2 := Lib.hid (fun W => sum_7 (x.r a) (x.r b) ka.1 ka.2 kb.1 kb.2 W)
  have hsv := sumV_u32 7 (by unfold isSum; simp) ka kb
  obtain ⟨X, hX⟩ : ∃ X, (putP (putR x a (sumV 7 (x.r a) (x.r b))) ((x.pl + 4) % 4294967296)) = X := ⟨_, rfl⟩
  rw [hX]
  have HX := Lib.hid hX
  clear hX
  generalize sumV 7 (x.r a) (x.r b) = SV at *
  clear hv hm ht hf
  go_enter Tryz.func11, Tryz.ntmps11
  go_wp2
  refine scope_step rfl w v p F w.heap.size (0, 0) X st _ _ ?_
  go_wp2_with (first
    | (go_at_call 41; refine HFe.out.mono ?_; rintro e w1 ⟨rfl, hM, hT, hT2, hF⟩; have c0 := hM.hv.reg ha; have c1 := hM.hv.reg hb; have cp := hM.hv.place; have cw := hM.hv.waits; have cf := hM.hv.frozen; have hv2 : v < w1.heap.size := hM.hv.lt; have e0 : w1.cell? ⟨w.heap.size, 0, none⟩ = some (.int .i64 0) := hM.hb.cell 0; have e1 : w1.cell? ⟨w.heap.size, 1, none⟩ = some (.int .i64 0) := hM.hb.cell 1; have ef := hM.hb.frozen; have el : w.heap.size < w1.heap.size := hM.hb.lt; have HM := Lib.hid hM; have HTb := Lib.hid (And.intro hT hT2); have HF := Lib.hid hF; clear hM hT hT2 hF HFe)
    | fail)
  go_quiet (fail)
  go_wp2_with fail
  have HK := Lib.hid (fun q W (hf : Fr [] ((w1.alloc (.cells #[.int .i64 7, .int .i64 (a : Int), .int .i64 (b : Int), .int .i64 m] 55)).drewN q) W) => (show W.cell? ⟨v, a, none⟩ = some (.int .u32 (x.r a)) ∧ W.cell? ⟨w1.heap.size, 0, none⟩ = some (.int .i64 7) from ⟨(((Fr.refl [] w1).alloc _).drewN q |>.trans hf).cell_some c0 (by simp), hf.cell_some (((Blk.new w1 55 _).drewN q).cell 0) (by simp)⟩))
  have HZ := Lib.hid (fun q W (hf : Fr [] ((w1.alloc (.cells #[.int .i64 7, .int .i64 (a : Int), .int .i64 (b : Int), .int .i64 m] 55)).drewN q) W) => (show ∀ i, W.frozen? ⟨v, i, none⟩ = false from (HM.out.fr (((Fr.refl [] w1).alloc _).drewN q |>.trans hf)).hv.frozen))
  have HZ1 := Lib.hid (fun q W (hf : Fr [] ((w1.alloc (.cells #[.int .i64 7, .int .i64 (a : Int), .int .i64 (b : Int), .int .i64 m] 55)).drewN q) W) => (show Mid w v p F w.heap.size x st W from HM.out.fr (((Fr.refl [] w1).alloc _).drewN q |>.trans hf)))
  go_region_law (first
    | (go_simp; go_at_call 43; (with_reducible refine (HS1.out _).mono ?_); rintro e w2 ⟨rfl, hf⟩
       have kk := HK.out _ _ ((Fr.refl [] _).drew.trans hf)
       obtain ⟨kk1, kk2⟩ := kk
       have kz := HZ.out _ _ ((Fr.refl [] _).drew.trans hf)
       have kw := HZ1.out _ _ ((Fr.refl [] _).drew.trans hf))
    | (go_simp; go_at_call 66; (with_reducible refine (HS2.out _).mono ?_); rintro e w3 ⟨rfl, rfl⟩)
    | fail)
  all_goals
    go_wp2_with fail
    have hnx : u32b ((x.pl + 4) % 4294967296) := by unfold u32b; omega
    refine wp_goto ?_
    have M := kw.put ha hsv
    exact ⟨_, rfl, rfl, rfl, rfl, ((x.pl + 4) % 4294967296), putR x a SV, rfl, hnx, M.hv, HX.out, M.hm, M.hf, M.hb, M.he⟩
end Go.Proofs.YtbmaecdlkchkeaaGreatDoor

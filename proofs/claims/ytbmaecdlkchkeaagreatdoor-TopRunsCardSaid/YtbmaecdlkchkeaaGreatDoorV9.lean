/- The machine's step: plain operations. The machine's step: loads and stores. The machine's step: drawn operations, quotients. -/
import Derived.Test.YtbmaecdlkchkeaaGreatDoorV6
namespace Go.Proofs.YtbmaecdlkchkeaaGreatDoor
open Go.RowKit
set_option linter.unusedVariables false
set_option linter.unusedSimpArgs false
set_option maxRecDepth 100000
set_option maxHeartbeats 4000000 in
theorem step_0 (v p F bt mm cap : Nat) (x : Vm) (st : St) (A : Option Addr) (t : List Pg) (w : World) (hv : VmAt w v x) (hm : MemAt w p F st) (ht : Tb w bt (.slice A mm cap) t) (hbw : bt < w.heap.size) (a b : Nat) (m : Int) (ha : a < 16) (hb : b < 16) (hf : fetI x st t = (⟨0, a, b, m⟩, 0)) :
    Calls Tryz.prog 11 #[ptr v, ptr p, .slice A mm cap] w (StepQ w v p F (0, 0) (putP x ((x.pl + 4) % 4294967296)) st) := by
  have HFe := Lib.hid (fetched hv hm ht hbw)
  rw [hf] at HFe
  have HT := Lib.hid (fun n W => trapped_any n W)
  have ka : 0 ≤ x.r a ∧ x.r a < 4294967296 := hv.r a
  have kb : 0 ≤ x.r b ∧ x.r b < 4294967296 := hv.r b
  have kp : 0 ≤ x.pl ∧ x.pl < 4294967296 := hv.p
  have hvl := hv.lt
  obtain ⟨X, hX⟩ : ∃ X, (putP x ((x.pl + 4) % 4294967296)) = X := ⟨_, rfl⟩
  rw [hX]
  have HX := Lib.hid hX
  clear hX
  clear hv hm ht hf
  go_enter Tryz.func11, Tryz.ntmps11
  go_wp2
  refine scope_step rfl w v p F w.heap.size (0, 0) X st _ _ ?_
  go_wp2_with (first
    | (go_at_call 41; refine HFe.out.mono ?_; rintro e w1 ⟨rfl, hM, hT, hT2, hF⟩; have c0 := hM.hv.reg ha; have c1 := hM.hv.reg hb; have cp := hM.hv.place; have cw := hM.hv.waits; have cf := hM.hv.frozen; have hv2 : v < w1.heap.size := hM.hv.lt; have e0 : w1.cell? ⟨w.heap.size, 0, none⟩ = some (.int .i64 0) := hM.hb.cell 0; have e1 : w1.cell? ⟨w.heap.size, 1, none⟩ = some (.int .i64 0) := hM.hb.cell 1; have ef := hM.hb.frozen; have el : w.heap.size < w1.heap.size := hM.hb.lt; have HM := Lib.hid hM; have HTb := Lib.hid (And.intro hT hT2); have HF := Lib.hid hF; clear hM hT hT2 hF HFe)
    | fail)
  go_quiet (fail)
  go_wp2_with fail
  have hnx : u32b ((x.pl + 4) % 4294967296) := by unfold u32b; omega
  refine wp_goto ?_
  have M := fun q => HM.out.fr (((Fr.refl [] w1).alloc (.cells #[.int .i64 0, .int .i64 (a : Int), .int .i64 (b : Int), .int .i64 m] 55)).drewN q)
  exact ⟨_, rfl, rfl, rfl, rfl, ((x.pl + 4) % 4294967296), x, rfl, hnx, (M _).hv, HX.out, (M _).hm, (M _).hf, (M _).hb, (M 0).he⟩
set_option maxHeartbeats 4000000 in
theorem step_1 (v p F bt mm cap : Nat) (x : Vm) (st : St) (A : Option Addr) (t : List Pg) (w : World) (hv : VmAt w v x) (hm : MemAt w p F st) (ht : Tb w bt (.slice A mm cap) t) (hbw : bt < w.heap.size) (a b : Nat) (m : Int) (ha : a < 16) (hb : b < 16) (hf : fetI x st t = (⟨1, a, b, m⟩, 0)) :
    Calls Tryz.prog 11 #[ptr v, ptr p, .slice A mm cap] w (StepQ w v p F (1, 0) x st) := by
  have HFe := Lib.hid (fetched hv hm ht hbw)
  rw [hf] at HFe
  have HT := Lib.hid (fun n W => trapped_any n W)
  have ka : 0 ≤ x.r a ∧ x.r a < 4294967296 := hv.r a
  have kb : 0 ≤ x.r b ∧ x.r b < 4294967296 := hv.r b
  have kp : 0 ≤ x.pl ∧ x.pl < 4294967296 := hv.p
  have hvl := hv.lt
  clear hv hm ht hf
  go_enter Tryz.func11, Tryz.ntmps11
  go_wp2
  refine scope_step rfl w v p F w.heap.size (1, 0) x st _ _ ?_
  go_wp2_with (first
    | (go_at_call 41; refine HFe.out.mono ?_; rintro e w1 ⟨rfl, hM, hT, hT2, hF⟩; have c0 := hM.hv.reg ha; have c1 := hM.hv.reg hb; have cp := hM.hv.place; have cw := hM.hv.waits; have cf := hM.hv.frozen; have hv2 : v < w1.heap.size := hM.hv.lt; have e0 : w1.cell? ⟨w.heap.size, 0, none⟩ = some (.int .i64 0) := hM.hb.cell 0; have e1 : w1.cell? ⟨w.heap.size, 1, none⟩ = some (.int .i64 0) := hM.hb.cell 1; have ef := hM.hb.frozen; have el : w.heap.size < w1.heap.size := hM.hb.lt; have HM := Lib.hid hM; have HTb := Lib.hid (And.intro hT hT2); have HF := Lib.hid hF; clear hM hT hT2 hF HFe)
    | fail)
  go_quiet (fail)
  go_wp2_with fail
  unfold jumps
  have HE := fun q => (HM.out.fr (((Fr.refl [] w1).alloc (.cells #[.int .i64 1, .int .i64 (a : Int), .int .i64 (b : Int), .int .i64 m] 55)).drewN q)).end_ 1 0
  refine bodyPost_ret (v := .agg #[.int .i64 1, .int .i64 0]) ?_ rfl (HE _).2
  exact results_cell_row Tryz.results11 _ _ w.heap.size 39 _ (0, 0) _ rfl (HE _).1 Tryz.underlying39 rfl (by kernel_rfl)
set_option maxHeartbeats 4000000 in
theorem step_2 (v p F bt mm cap : Nat) (x : Vm) (st : St) (A : Option Addr) (t : List Pg) (w : World) (hv : VmAt w v x) (hm : MemAt w p F st) (ht : Tb w bt (.slice A mm cap) t) (hbw : bt < w.heap.size) (a b : Nat) (m : Int) (ha : a < 16) (hb : b < 16) (hf : fetI x st t = (⟨2, a, b, m⟩, 0)) :
    Calls Tryz.prog 11 #[ptr v, ptr p, .slice A mm cap] w (StepQ w v p F (0, 0) (putP (putR x a (m % 4294967296)) ((x.pl + 4) % 4294967296)) st) := by
  have HFe := Lib.hid (fetched hv hm ht hbw)
  rw [hf] at HFe
  have HT := Lib.hid (fun n W => trapped_any n W)
  have ka : 0 ≤ x.r a ∧ x.r a < 4294967296 := hv.r a
  have kb : 0 ≤ x.r b ∧ x.r b < 4294967296 := hv.r b
  have kp : 0 ≤ x.pl ∧ x.pl < 4294967296 := hv.p
  have hvl := hv.lt
  obtain ⟨X, hX⟩ : ∃ X, (putP (putR x a (m % 4294967296)) ((x.pl + 4) % 4294967296)) = X := ⟨_, rfl⟩
  rw [hX]
  have HX := Lib.hid hX
  clear hX
  clear hv hm ht hf
  go_enter Tryz.func11, Tryz.ntmps11
  go_wp2
  refine scope_step rfl w v p F w.heap.size (0, 0) X st _ _ ?_
  go_wp2_with (first
    | (go_at_call 41; refine HFe.out.mono ?_; rintro e w1 ⟨rfl, hM, hT, hT2, hF⟩; have c0 := hM.hv.reg ha; have c1 := hM.hv.reg hb; have cp := hM.hv.place; have cw := hM.hv.waits; have cf := hM.hv.frozen; have hv2 : v < w1.heap.size := hM.hv.lt; have e0 : w1.cell? ⟨w.heap.size, 0, none⟩ = some (.int .i64 0) := hM.hb.cell 0; have e1 : w1.cell? ⟨w.heap.size, 1, none⟩ = some (.int .i64 0) := hM.hb.cell 1; have ef := hM.hb.frozen; have el : w.heap.size < w1.heap.size := hM.hb.lt; have HM := Lib.hid hM; have HTb := Lib.hid (And.intro hT hT2); have HF := Lib.hid hF; clear hM hT hT2 hF HFe)
    | fail)
  go_quiet (fail)
  go_wp2_with fail
  have hnx : u32b ((x.pl + 4) % 4294967296) := by unfold u32b; omega
  refine wp_goto ?_
  have M := fun q => (HM.out.fr (((Fr.refl [] w1).alloc (.cells #[.int .i64 2, .int .i64 (a : Int), .int .i64 (b : Int), .int .i64 m] 55)).drewN q)).put ha (show u32b (m % 4294967296) by unfold u32b; omega)
  exact ⟨_, rfl, rfl, rfl, rfl, ((x.pl + 4) % 4294967296), (putR x a (m % 4294967296)), rfl, hnx, (M _).hv, HX.out, (M _).hm, (M _).hf, (M _).hb, (M 0).he⟩
set_option maxHeartbeats 4000000 in
theorem step_24 (v p F bt mm cap : Nat) (x : Vm) (st : St) (A : Option Addr) (t : List Pg) (w : World) (hv : VmAt w v x) (hm : MemAt w p F st) (ht : Tb w bt (.slice A mm cap) t) (hbw : bt < w.heap.size) (a b : Nat) (m : Int) (ha : a < 16) (hb : b < 16) (hf : fetI x st t = (⟨24, a, b, m⟩, 0)) :
    Calls Tryz.prog 11 #[ptr v, ptr p, .slice A mm cap] w (StepQ w v p F (0, 0) (putP x ((((x.pl + 4) % 4294967296) + 4 * m) % 4294967296)) st) := by
  have HFe := Lib.hid (fetched hv hm ht hbw)
  rw [hf] at HFe
  have HT := Lib.hid (fun n W => trapped_any n W)
  have ka : 0 ≤ x.r a ∧ x.r a < 4294967296 := hv.r a
  have kb : 0 ≤ x.r b ∧ x.r b < 4294967296 := hv.r b
  have kp : 0 ≤ x.pl ∧ x.pl < 4294967296 := hv.p
  have hvl := hv.lt
  obtain ⟨X, hX⟩ : ∃ X, (putP x ((((x.pl + 4) % 4294967296) + 4 * m) % 4294967296)) = X := ⟨_, rfl⟩
  rw [hX]
  have HX := Lib.hid hX
  clear hX
  clear hv hm ht hf
  go_enter Tryz.func11, Tryz.ntmps11
  go_wp2
  refine scope_step rfl w v p F w.heap.size (0, 0) X st _ _ ?_
  go_wp2_with (first
    | (go_at_call 41; refine HFe.out.mono ?_; rintro e w1 ⟨rfl, hM, hT, hT2, hF⟩; have c0 := hM.hv.reg ha; have c1 := hM.hv.reg hb; have cp := hM.hv.place; have cw := hM.hv.waits; have cf := hM.hv.frozen; have hv2 : v < w1.heap.size := hM.hv.lt; have e0 : w1.cell? ⟨w.heap.size, 0, none⟩ = some (.int .i64 0) := hM.hb.cell 0; have e1 : w1.cell? ⟨w.heap.size, 1, none⟩ = some (.int .i64 0) := hM.hb.cell 1; have ef := hM.hb.frozen; have el : w.heap.size < w1.heap.size := hM.hb.lt; have HM := Lib.hid hM; have HTb := Lib.hid (And.intro hT hT2); have HF := Lib.hid hF; clear hM hT hT2 hF HFe)
    | fail)
  go_quiet (fail)
  go_wp2_with fail
  refine wp_goto ?_
  have M := fun q => HM.out.fr (((Fr.refl [] w1).alloc (.cells #[.int .i64 24, .int .i64 (a : Int), .int .i64 (b : Int), .int .i64 m] 55)).drewN q)
  have hB := fun q => (show Blk ((w1.alloc (.cells #[.int .i64 24, .int .i64 (a : Int), .int .i64 (b : Int), .int .i64 m] 55)).drewN q) w1.heap.size 55 _ from (Blk.new w1 55 _).drewN q)
  exact ⟨_, rfl, rfl, rfl, rfl, w1.heap.size, ((x.pl + 4) % 4294967296), _, _, _, m, x, rfl, rfl, hB _, (M _).hv, HX.out, (M _).hm, (M _).hf, (M _).hb, (M 0).he⟩
set_option maxHeartbeats 4000000 in
theorem step_25_0 (v p F bt mm cap : Nat) (x : Vm) (st : St) (A : Option Addr) (t : List Pg) (w : World) (hv : VmAt w v x) (hm : MemAt w p F st) (ht : Tb w bt (.slice A mm cap) t) (hbw : bt < w.heap.size) (a b : Nat) (m : Int) (ha : a < 16) (hb : b < 16) (hz : x.r a = 0) (hf : fetI x st t = (⟨25, a, b, m⟩, 0)) :
    Calls Tryz.prog 11 #[ptr v, ptr p, .slice A mm cap] w (StepQ w v p F (0, 0) (putP x ((((x.pl + 4) % 4294967296) + 4 * m) % 4294967296)) st) := by
  have HFe := Lib.hid (fetched hv hm ht hbw)
  rw [hf] at HFe
  have HT := Lib.hid (fun n W => trapped_any n W)
  have ka : 0 ≤ x.r a ∧ x.r a < 4294967296 := hv.r a
  have kb : 0 ≤ x.r b ∧ x.r b < 4294967296 := hv.r b
  have kp : 0 ≤ x.pl ∧ x.pl < 4294967296 := hv.p
  have hvl := hv.lt
  have hzb : (x.r a == 0) = true := by simpa using hz
  have hzc : (x.r a != 0) = false := by simp [hz]
  clear hz
  obtain ⟨X, hX⟩ : ∃ X, (putP x ((((x.pl + 4) % 4294967296) + 4 * m) % 4294967296)) = X := ⟨_, rfl⟩
  rw [hX]
  have HX := Lib.hid hX
  clear hX
  clear hv hm ht hf
  go_enter Tryz.func11, Tryz.ntmps11
  go_wp2
  refine scope_step rfl w v p F w.heap.size (0, 0) X st _ _ ?_
  go_wp2_with (first
    | (go_at_call 41; refine HFe.out.mono ?_; rintro e w1 ⟨rfl, hM, hT, hT2, hF⟩; have c0 := hM.hv.reg ha; have c1 := hM.hv.reg hb; have cp := hM.hv.place; have cw := hM.hv.waits; have cf := hM.hv.frozen; have hv2 : v < w1.heap.size := hM.hv.lt; have e0 : w1.cell? ⟨w.heap.size, 0, none⟩ = some (.int .i64 0) := hM.hb.cell 0; have e1 : w1.cell? ⟨w.heap.size, 1, none⟩ = some (.int .i64 0) := hM.hb.cell 1; have ef := hM.hb.frozen; have el : w.heap.size < w1.heap.size := hM.hb.lt; have HM := Lib.hid hM; have HTb := Lib.hid (And.intro hT hT2); have HF := Lib.hid hF; clear hM hT hT2 hF HFe)
    | fail)
  go_quiet (fail)
  go_wp2_with fail
  refine wp_goto ?_
  have M := fun q => HM.out.fr (((Fr.refl [] w1).alloc (.cells #[.int .i64 25, .int .i64 (a : Int), .int .i64 (b : Int), .int .i64 m] 55)).drewN q)
  have hB := fun q => (show Blk ((w1.alloc (.cells #[.int .i64 25, .int .i64 (a : Int), .int .i64 (b : Int), .int .i64 m] 55)).drewN q) w1.heap.size 55 _ from (Blk.new w1 55 _).drewN q)
  exact ⟨_, rfl, rfl, rfl, rfl, w1.heap.size, ((x.pl + 4) % 4294967296), _, _, _, m, x, rfl, rfl, hB _, (M _).hv, HX.out, (M _).hm, (M _).hf, (M _).hb, (M 0).he⟩
set_option maxHeartbeats 4000000 in
theorem step_25_1 (v p F bt mm cap : Nat) (x : Vm) (st : St) (A : Option Addr) (t : List Pg) (w : World) (hv : VmAt w v x) (hm : MemAt w p F st) (ht : Tb w bt (.slice A mm cap) t) (hbw : bt < w.heap.size) (a b : Nat) (m : Int) (ha : a < 16) (hb : b < 16) (hz : x.r a ≠ 0) (hf : fetI x st t = (⟨25, a, b, m⟩, 0)) :
    Calls Tryz.prog 11 #[ptr v, ptr p, .slice A mm cap] w (StepQ w v p F (0, 0) (putP x ((x.pl + 4) % 4294967296)) st) := by
  have HFe := Lib.hid (fetched hv hm ht hbw)
  rw [hf] at HFe
  have HT := Lib.hid (fun n W => trapped_any n W)
  have ka : 0 ≤ x.r a ∧ x.r a < 4294967296 := hv.r a
  have kb : 0 ≤ x.r b ∧ x.r b < 4294967296 := hv.r b
  have kp : 0 ≤ x.pl ∧ x.pl < 4294967296 := hv.p
  have hvl := hv.lt
  have hzb : (x.r a == 0) = false := by simpa using hz
  have hzc : (x.r a != 0) = true := by simp [hz]
  clear hz
  obtain ⟨X, hX⟩ : ∃ X, (putP x ((x.pl + 4) % 4294967296)) = X := ⟨_, rfl⟩
  rw [hX]
  have HX := Lib.hid hX
  clear hX
  clear hv hm ht hf
  go_enter Tryz.func11, Tryz.ntmps11
  go_wp2
  refine scope_step rfl w v p F w.heap.size (0, 0) X st _ _ ?_
  go_wp2_with (first
    | (go_at_call 41; refine HFe.out.mono ?_; rintro e w1 ⟨rfl, hM, hT, hT2, hF⟩; have c0 := hM.hv.reg ha; have c1 := hM.hv.reg hb; have cp := hM.hv.place; have cw := hM.hv.waits; have cf := hM.hv.frozen; have hv2 : v < w1.heap.size := hM.hv.lt; have e0 : w1.cell? ⟨w.heap.size, 0, none⟩ = some (.int .i64 0) := hM.hb.cell 0; have e1 : w1.cell? ⟨w.heap.size, 1, none⟩ = some (.int .i64 0) := hM.hb.cell 1; have ef := hM.hb.frozen; have el : w.heap.size < w1.heap.size := hM.hb.lt; have HM := Lib.hid hM; have HTb := Lib.hid (And.intro hT hT2); have HF := Lib.hid hF; clear hM hT hT2 hF HFe)
    | fail)
  go_quiet (fail)
  go_wp2_with fail
  have hnx : u32b ((x.pl + 4) % 4294967296) := by unfold u32b; omega
  refine wp_goto ?_
  have M := fun q => HM.out.fr (((Fr.refl [] w1).alloc (.cells #[.int .i64 25, .int .i64 (a : Int), .int .i64 (b : Int), .int .i64 m] 55)).drewN q)
  exact ⟨_, rfl, rfl, rfl, rfl, ((x.pl + 4) % 4294967296), x, rfl, hnx, (M _).hv, HX.out, (M _).hm, (M _).hf, (M _).hb, (M 0).he⟩
set_option maxHeartbeats 4000000 in
theorem step_26_0 (v p F bt mm cap : Nat) (x : Vm) (st : St) (A : Option Addr) (t : List Pg) (w : World) (hv : VmAt w v x) (hm : MemAt w p F st) (ht : Tb w bt (.slice A mm cap) t) (hbw : bt < w.heap.size) (a b : Nat) (m : Int) (ha : a < 16) (hb : b < 16) (hz : x.r a = 0) (hf : fetI x st t = (⟨26, a, b, m⟩, 0)) :
    Calls Tryz.prog 11 #[ptr v, ptr p, .slice A mm cap] w (StepQ w v p F (0, 0) (putP x ((x.pl + 4) % 4294967296)) st) := by
  have HFe := Lib.hid (fetched hv hm ht hbw)
  rw [hf] at HFe
  have HT := Lib.hid (fun n W => trapped_any n W)
  have ka : 0 ≤ x.r a ∧ x.r a < 4294967296 := hv.r a
  have kb : 0 ≤ x.r b ∧ x.r b < 4294967296 := hv.r b
  have kp : 0 ≤ x.pl ∧ x.pl < 4294967296 := hv.p
  have hvl := hv.lt
  have hzb : (x.r a == 0) = true := by simpa using hz
  have hzc : (x.r a != 0) = false := by simp [hz]
  clear hz
  obtain ⟨X, hX⟩ : ∃ X, (putP x ((x.pl + 4) % 4294967296)) = X := ⟨_, rfl⟩
  rw [hX]
  have HX := Lib.hid hX
  clear hX
  clear hv hm ht hf
  go_enter Tryz.func11, Tryz.ntmps11
  go_wp2
  refine scope_step rfl w v p F w.heap.size (0, 0) X st _ _ ?_
  go_wp2_with (first
    | (go_at_call 41; refine HFe.out.mono ?_; rintro e w1 ⟨rfl, hM, hT, hT2, hF⟩; have c0 := hM.hv.reg ha; have c1 := hM.hv.reg hb; have cp := hM.hv.place; have cw := hM.hv.waits; have cf := hM.hv.frozen; have hv2 : v < w1.heap.size := hM.hv.lt; have e0 : w1.cell? ⟨w.heap.size, 0, none⟩ = some (.int .i64 0) := hM.hb.cell 0; have e1 : w1.cell? ⟨w.heap.size, 1, none⟩ = some (.int .i64 0) := hM.hb.cell 1; have ef := hM.hb.frozen; have el : w.heap.size < w1.heap.size := hM.hb.lt; have HM := Lib.hid hM; have HTb := Lib.hid (And.intro hT hT2); have HF := Lib.hid hF; clear hM hT hT2 hF HFe)
    | fail)
  go_quiet (fail)
  go_wp2_with fail
  have hnx : u32b ((x.pl + 4) % 4294967296) := by unfold u32b; omega
  refine wp_goto ?_
  have M := fun q => HM.out.fr (((Fr.refl [] w1).alloc (.cells #[.int .i64 26, .int .i64 (a : Int), .int .i64 (b : Int), .int .i64 m] 55)).drewN q)
  exact ⟨_, rfl, rfl, rfl, rfl, ((x.pl + 4) % 4294967296), x, rfl, hnx, (M _).hv, HX.out, (M _).hm, (M _).hf, (M _).hb, (M 0).he⟩
set_option maxHeartbeats 4000000 in
theorem step_26_1 (v p F bt mm cap : Nat) (x : Vm) (st : St) (A : Option Addr) (t : List Pg) (w : World) (hv : VmAt w v x) (hm : MemAt w p F st) (ht : Tb w bt (.slice A mm cap) t) (hbw : bt < w.heap.size) (a b : Nat) (m : Int) (ha : a < 16) (hb : b < 16) (hz : x.r a ≠ 0) (hf : fetI x st t = (⟨26, a, b, m⟩, 0)) :
    Calls Tryz.prog 11 #[ptr v, ptr p, .slice A mm cap] w (StepQ w v p F (0, 0) (putP x ((((x.pl + 4) % 4294967296) + 4 * m) % 4294967296)) st) := by
  have HFe := Lib.hid (fetched hv hm ht hbw)
  rw [hf] at HFe
  have HT := Lib.hid (fun n W => trapped_any n W)
  have ka : 0 ≤ x.r a ∧ x.r a < 4294967296 := hv.r a
  have kb : 0 ≤ x.r b ∧ x.r b < 4294967296 := hv.r b
  have kp : 0 ≤ x.pl ∧ x.pl < 4294967296 := hv.p
  have hvl := hv.lt
  have hzb : (x.r a == 0) = false := by simpa using hz
  have hzc : (x.r a != 0) = true := by simp [hz]
  clear hz
  obtain ⟨X, hX⟩ : ∃ X, (putP x ((((x.pl + 4) % 4294967296) + 4 * m) % 4294967296)) = X := ⟨_, rfl⟩
  rw [hX]
  have HX := Lib.hid hX
  clear hX
  clear hv hm ht hf
  go_enter Tryz.func11, Tryz.ntmps11
  go_wp2
  refine scope_step rfl w v p F w.heap.size (0, 0) X st _ _ ?_
  go_wp2_with (first
    | (go_at_call 41; refine HFe.out.mono ?_; rintro e w1 ⟨rfl, hM, hT, hT2, hF⟩; have c0 := hM.hv.reg ha; have c1 := hM.hv.reg hb; have cp := hM.hv.place; have cw := hM.hv.waits; have cf := hM.hv.frozen; have hv2 : v < w1.heap.size := hM.hv.lt; have e0 : w1.cell? ⟨w.heap.size, 0, none⟩ = some (.int .i64 0) := hM.hb.cell 0; have e1 : w1.cell? ⟨w.heap.size, 1, none⟩ = some (.int .i64 0) := hM.hb.cell 1; have ef := hM.hb.frozen; have el : w.heap.size < w1.heap.size := hM.hb.lt; have HM := Lib.hid hM; have HTb := Lib.hid (And.intro hT hT2); have HF := Lib.hid hF; clear hM hT hT2 hF HFe)
    | fail)
  go_quiet (fail)
  go_wp2_with fail
  refine wp_goto ?_
  have M := fun q => HM.out.fr (((Fr.refl [] w1).alloc (.cells #[.int .i64 26, .int .i64 (a : Int), .int .i64 (b : Int), .int .i64 m] 55)).drewN q)
  have hB := fun q => (show Blk ((w1.alloc (.cells #[.int .i64 26, .int .i64 (a : Int), .int .i64 (b : Int), .int .i64 m] 55)).drewN q) w1.heap.size 55 _ from (Blk.new w1 55 _).drewN q)
  exact ⟨_, rfl, rfl, rfl, rfl, w1.heap.size, ((x.pl + 4) % 4294967296), _, _, _, m, x, rfl, rfl, hB _, (M _).hv, HX.out, (M _).hm, (M _).hf, (M _).hb, (M 0).he⟩
set_option maxHeartbeats 4000000 in
theorem step_27 (v p F bt mm cap : Nat) (x : Vm) (st : St) (A : Option Addr) (t : List Pg) (w : World) (hv : VmAt w v x) (hm : MemAt w p F st) (ht : Tb w bt (.slice A mm cap) t) (hbw : bt < w.heap.size) (a b : Nat) (m : Int) (ha : a < 16) (hb : b < 16) (hf : fetI x st t = (⟨27, a, b, m⟩, 0)) :
    Calls Tryz.prog 11 #[ptr v, ptr p, .slice A mm cap] w (StepQ w v p F (0, 0) (putP x (x.r a)) st) := by
  have HFe := Lib.hid (fetched hv hm ht hbw)
  rw [hf] at HFe
  have HT := Lib.hid (fun n W => trapped_any n W)
  have ka : 0 ≤ x.r a ∧ x.r a < 4294967296 := hv.r a
  have kb : 0 ≤ x.r b ∧ x.r b < 4294967296 := hv.r b
  have kp : 0 ≤ x.pl ∧ x.pl < 4294967296 := hv.p
  have hvl := hv.lt
  obtain ⟨X, hX⟩ : ∃ X, (putP x (x.r a)) = X := ⟨_, rfl⟩
  rw [hX]
  have HX := Lib.hid hX
  clear hX
  clear hv hm ht hf
  go_enter Tryz.func11, Tryz.ntmps11
  go_wp2
  refine scope_step rfl w v p F w.heap.size (0, 0) X st _ _ ?_
  go_wp2_with (first
    | (go_at_call 41; refine HFe.out.mono ?_; rintro e w1 ⟨rfl, hM, hT, hT2, hF⟩; have c0 := hM.hv.reg ha; have c1 := hM.hv.reg hb; have cp := hM.hv.place; have cw := hM.hv.waits; have cf := hM.hv.frozen; have hv2 : v < w1.heap.size := hM.hv.lt; have e0 : w1.cell? ⟨w.heap.size, 0, none⟩ = some (.int .i64 0) := hM.hb.cell 0; have e1 : w1.cell? ⟨w.heap.size, 1, none⟩ = some (.int .i64 0) := hM.hb.cell 1; have ef := hM.hb.frozen; have el : w.heap.size < w1.heap.size := hM.hb.lt; have HM := Lib.hid hM; have HTb := Lib.hid (And.intro hT hT2); have HF := Lib.hid hF; clear hM hT hT2 hF HFe)
    | fail)
  go_quiet (fail)
  go_wp2_with fail
  refine wp_goto ?_
  have M := fun q => HM.out.fr (((Fr.refl [] w1).alloc (.cells #[.int .i64 27, .int .i64 (a : Int), .int .i64 (b : Int), .int .i64 m] 55)).drewN q)
  exact ⟨_, rfl, rfl, rfl, rfl, x.r a, x, rfl, ka, (M _).hv, HX.out, (M _).hm, (M _).hf, (M _).hb, (M 0).he⟩
set_option maxHeartbeats 4000000 in
theorem step_28 (v p F bt mm cap : Nat) (x : Vm) (st : St) (A : Option Addr) (t : List Pg) (w : World) (hv : VmAt w v x) (hm : MemAt w p F st) (ht : Tb w bt (.slice A mm cap) t) (hbw : bt < w.heap.size) (a b : Nat) (m : Int) (ha : a < 16) (hb : b < 16) (hf : fetI x st t = (⟨28, a, b, m⟩, 0)) :
    Calls Tryz.prog 11 #[ptr v, ptr p, .slice A mm cap] w (StepQ w v p F (0, 0) (putP (putR x a ((x.pl + 4) % 4294967296)) ((((x.pl + 4) % 4294967296) + 4 * m) % 4294967296)) st) := by
  have HFe := Lib.hid (fetched hv hm ht hbw)
  rw [hf] at HFe
  have HT := Lib.hid (fun n W => trapped_any n W)
  have ka : 0 ≤ x.r a ∧ x.r a < 4294967296 := hv.r a
  have kb : 0 ≤ x.r b ∧ x.r b < 4294967296 := hv.r b
  have kp : 0 ≤ x.pl ∧ x.pl < 4294967296 := hv.p
  have hvl := hv.lt
  obtain ⟨X, hX⟩ : ∃ X, (putP (putR x a ((x.pl + 4) % 4294967296)) ((((x.pl + 4) % 4294967296) + 4 * m) % 4294967296)) = X := ⟨_, rfl⟩
  rw [hX]
  have HX := Lib.hid hX
  clear hX
  clear hv hm ht hf
  go_enter Tryz.func11, Tryz.ntmps11
  go_wp2
  refine scope_step rfl w v p F w.heap.size (0, 0) X st _ _ ?_
  go_wp2_with (first
    | (go_at_call 41; refine HFe.out.mono ?_; rintro e w1 ⟨rfl, hM, hT, hT2, hF⟩; have c0 := hM.hv.reg ha; have c1 := hM.hv.reg hb; have cp := hM.hv.place; have cw := hM.hv.waits; have cf := hM.hv.frozen; have hv2 : v < w1.heap.size := hM.hv.lt; have e0 : w1.cell? ⟨w.heap.size, 0, none⟩ = some (.int .i64 0) := hM.hb.cell 0; have e1 : w1.cell? ⟨w.heap.size, 1, none⟩ = some (.int .i64 0) := hM.hb.cell 1; have ef := hM.hb.frozen; have el : w.heap.size < w1.heap.size := hM.hb.lt; have HM := Lib.hid hM; have HTb := Lib.hid (And.intro hT hT2); have HF := Lib.hid hF; clear hM hT hT2 hF HFe)
    | fail)
  go_quiet (fail)
  go_wp2_with fail
  refine wp_goto ?_
  have M := fun q => (HM.out.fr (((Fr.refl [] w1).alloc (.cells #[.int .i64 28, .int .i64 (a : Int), .int .i64 (b : Int), .int .i64 m] 55)).drewN q)).put ha (show u32b ((x.pl + 4) % 4294967296) by unfold u32b; omega)
  have hB := fun q => (show Blk ((w1.alloc (.cells #[.int .i64 28, .int .i64 (a : Int), .int .i64 (b : Int), .int .i64 m] 55)).drewN q) w1.heap.size 55 _ from (Blk.new w1 55 _).drewN q)
  exact ⟨_, rfl, rfl, rfl, rfl, w1.heap.size, ((x.pl + 4) % 4294967296), _, _, _, m, (putR x a ((x.pl + 4) % 4294967296)), rfl, rfl, ((hB _).far (p := ⟨v, a, none⟩) (by have := hv2; simp; omega) _), (M _).hv, HX.out, (M _).hm, (M _).hf, (M _).hb, (M 0).he⟩
end Go.Proofs.YtbmaecdlkchkeaaGreatDoor
namespace Go.Proofs.YtbmaecdlkchkeaaGreatDoor
open Go.RowKit
set_option linter.unusedVariables false
set_option linter.unusedSimpArgs false
set_option maxRecDepth 100000
set_option maxHeartbeats 4000000 in
theorem step_20 (v p F bt mm cap : Nat) (x : Vm) (st : St) (A : Option Addr) (t : List Pg) (w : World) (hv : VmAt w v x) (hm : MemAt w p F st) (ht : Tb w bt (.slice A mm cap) t) (hbw : bt < w.heap.size) (a b : Nat) (m : Int) (ha : a < 16) (hb : b < 16) (hf : fetI x st t = (⟨20, a, b, m⟩, 0)) :
    Calls Tryz.prog 11 #[ptr v, ptr p, .slice A mm cap] w (StepQ w v p F (touchV 20 x st t a ((x.r b + m) % 4294967296) 1 ((x.pl + 4) % 4294967296)).1 (touchV 20 x st t a ((x.r b + m) % 4294967296) 1 ((x.pl + 4) % 4294967296)).2.1 (touchV 20 x st t a ((x.r b + m) % 4294967296) 1 ((x.pl + 4) % 4294967296)).2.2) := by
  have HFe := Lib.hid (fetched hv hm ht hbw)
  rw [hf] at HFe
  have HT := Lib.hid (fun n W => trapped_any n W)
  have ka : 0 ≤ x.r a ∧ x.r a < 4294967296 := hv.r a
  have kb : 0 ≤ x.r b ∧ x.r b < 4294967296 := hv.r b
  have kp : 0 ≤ x.pl ∧ x.pl < 4294967296 := hv.p
  have hvl := hv.lt
  have hlv : v < w.heap.size ∧ F < w.heap.size := ⟨hv.lt, hm.ltF⟩
  clear hv hm ht hf
  go_enter Tryz.func11, Tryz.ntmps11
  go_wp2
  refine scope_step rfl w v p F w.heap.size (touchV 20 x st t a ((x.r b + m) % 4294967296) 1 ((x.pl + 4) % 4294967296)).1 (touchV 20 x st t a ((x.r b + m) % 4294967296) 1 ((x.pl + 4) % 4294967296)).2.1 (touchV 20 x st t a ((x.r b + m) % 4294967296) 1 ((x.pl + 4) % 4294967296)).2.2 _ _ ?_
  go_wp2_with (first
    | (go_at_call 41; refine HFe.out.mono ?_; rintro e w1 ⟨rfl, hM, hT, hT2, hF⟩; have c0 := hM.hv.reg ha; have c1 := hM.hv.reg hb; have cp := hM.hv.place; have cw := hM.hv.waits; have cf := hM.hv.frozen; have hv2 : v < w1.heap.size := hM.hv.lt; have e0 : w1.cell? ⟨w.heap.size, 0, none⟩ = some (.int .i64 0) := hM.hb.cell 0; have e1 : w1.cell? ⟨w.heap.size, 1, none⟩ = some (.int .i64 0) := hM.hb.cell 1; have ef := hM.hb.frozen; have el : w.heap.size < w1.heap.size := hM.hb.lt; have HM := Lib.hid hM; have HTb := Lib.hid (And.intro hT hT2); have HF := Lib.hid hF; clear hM hT hT2 hF HFe)
    | fail)
  go_quiet (fail)
  go_wp2_with fail
  have hnx : u32b ((x.pl + 4) % 4294967296) := by unfold u32b; omega
  refine wp_goto ?_
  have M := fun q => HM.out.fr (((Fr.refl [] w1).alloc (.cells #[.int .i64 20, .int .i64 (a : Int), .int .i64 (b : Int), .int .i64 m] 55)).drewN q)
  have hB := fun q => (show Blk ((w1.alloc (.cells #[.int .i64 20, .int .i64 (a : Int), .int .i64 (b : Int), .int .i64 m] 55)).drewN q) w1.heap.size 55 _ from (Blk.new w1 55 _).drewN q)
  have hT5 := fun q => HTb.out.1.fr (((Fr.refl [] w1).alloc (.cells #[.int .i64 20, .int .i64 (a : Int), .int .i64 (b : Int), .int .i64 m] 55)).drewN q) (by simp)
  have hT6 := fun q => Nat.lt_of_lt_of_le HTb.out.2 ((((Fr.refl [] w1).alloc (.cells #[.int .i64 20, .int .i64 (a : Int), .int .i64 (b : Int), .int .i64 m] 55)).drewN q)).size
  have f0 := fun q => (show Fr [] w ((w1.alloc (.cells #[.int .i64 20, .int .i64 (a : Int), .int .i64 (b : Int), .int .i64 m] 55)).drewN q) from HF.out.trans (((Fr.refl [] w1).alloc (.cells #[.int .i64 20, .int .i64 (a : Int), .int .i64 (b : Int), .int .i64 m] 55)).drewN q))
  exact ⟨_, rfl, rfl, rfl, rfl, rfl, w1.heap.size, bt, mm, cap, A, 20, a, (a : Int), (b : Int), m, ((x.r b + m) % 4294967296), 1, ((x.pl + 4) % 4294967296), x, st, t, rfl, rfl, rfl, rfl, rfl, rfl, hnx, ha, by omega, by omega, ⟨hB _, (M _).hv, (M _).hm, (hT5 _), (hT6 _), f0 _, (M _).hb, (M 0).he, hlv⟩, rfl⟩
set_option maxHeartbeats 4000000 in
theorem step_21 (v p F bt mm cap : Nat) (x : Vm) (st : St) (A : Option Addr) (t : List Pg) (w : World) (hv : VmAt w v x) (hm : MemAt w p F st) (ht : Tb w bt (.slice A mm cap) t) (hbw : bt < w.heap.size) (a b : Nat) (m : Int) (ha : a < 16) (hb : b < 16) (hf : fetI x st t = (⟨21, a, b, m⟩, 0)) :
    Calls Tryz.prog 11 #[ptr v, ptr p, .slice A mm cap] w (StepQ w v p F (touchV 21 x st t a ((x.r b + m) % 4294967296) 4 ((x.pl + 4) % 4294967296)).1 (touchV 21 x st t a ((x.r b + m) % 4294967296) 4 ((x.pl + 4) % 4294967296)).2.1 (touchV 21 x st t a ((x.r b + m) % 4294967296) 4 ((x.pl + 4) % 4294967296)).2.2) := by
  have HFe := Lib.hid (fetched hv hm ht hbw)
  rw [hf] at HFe
  have HT := Lib.hid (fun n W => trapped_any n W)
  have ka : 0 ≤ x.r a ∧ x.r a < 4294967296 := hv.r a
  have kb : 0 ≤ x.r b ∧ x.r b < 4294967296 := hv.r b
  have kp : 0 ≤ x.pl ∧ x.pl < 4294967296 := hv.p
  have hvl := hv.lt
  have hlv : v < w.heap.size ∧ F < w.heap.size := ⟨hv.lt, hm.ltF⟩
  clear hv hm ht hf
  go_enter Tryz.func11, Tryz.ntmps11
  go_wp2
  refine scope_step rfl w v p F w.heap.size (touchV 21 x st t a ((x.r b + m) % 4294967296) 4 ((x.pl + 4) % 4294967296)).1 (touchV 21 x st t a ((x.r b + m) % 4294967296) 4 ((x.pl + 4) % 4294967296)).2.1 (touchV 21 x st t a ((x.r b + m) % 4294967296) 4 ((x.pl + 4) % 4294967296)).2.2 _ _ ?_
  go_wp2_with (first
    | (go_at_call 41; refine HFe.out.mono ?_; rintro e w1 ⟨rfl, hM, hT, hT2, hF⟩; have c0 := hM.hv.reg ha; have c1 := hM.hv.reg hb; have cp := hM.hv.place; have cw := hM.hv.waits; have cf := hM.hv.frozen; have hv2 : v < w1.heap.size := hM.hv.lt; have e0 : w1.cell? ⟨w.heap.size, 0, none⟩ = some (.int .i64 0) := hM.hb.cell 0; have e1 : w1.cell? ⟨w.heap.size, 1, none⟩ = some (.int .i64 0) := hM.hb.cell 1; have ef := hM.hb.frozen; have el : w.heap.size < w1.heap.size := hM.hb.lt; have HM := Lib.hid hM; have HTb := Lib.hid (And.intro hT hT2); have HF := Lib.hid hF; clear hM hT hT2 hF HFe)
    | fail)
  go_quiet (fail)
  go_wp2_with fail
  have hnx : u32b ((x.pl + 4) % 4294967296) := by unfold u32b; omega
  refine wp_goto ?_
  have M := fun q => HM.out.fr (((Fr.refl [] w1).alloc (.cells #[.int .i64 21, .int .i64 (a : Int), .int .i64 (b : Int), .int .i64 m] 55)).drewN q)
  have hB := fun q => (show Blk ((w1.alloc (.cells #[.int .i64 21, .int .i64 (a : Int), .int .i64 (b : Int), .int .i64 m] 55)).drewN q) w1.heap.size 55 _ from (Blk.new w1 55 _).drewN q)
  have hT5 := fun q => HTb.out.1.fr (((Fr.refl [] w1).alloc (.cells #[.int .i64 21, .int .i64 (a : Int), .int .i64 (b : Int), .int .i64 m] 55)).drewN q) (by simp)
  have hT6 := fun q => Nat.lt_of_lt_of_le HTb.out.2 ((((Fr.refl [] w1).alloc (.cells #[.int .i64 21, .int .i64 (a : Int), .int .i64 (b : Int), .int .i64 m] 55)).drewN q)).size
  have f0 := fun q => (show Fr [] w ((w1.alloc (.cells #[.int .i64 21, .int .i64 (a : Int), .int .i64 (b : Int), .int .i64 m] 55)).drewN q) from HF.out.trans (((Fr.refl [] w1).alloc (.cells #[.int .i64 21, .int .i64 (a : Int), .int .i64 (b : Int), .int .i64 m] 55)).drewN q))
  exact ⟨_, rfl, rfl, rfl, rfl, rfl, w1.heap.size, bt, mm, cap, A, 21, a, (a : Int), (b : Int), m, ((x.r b + m) % 4294967296), 4, ((x.pl + 4) % 4294967296), x, st, t, rfl, rfl, rfl, rfl, rfl, rfl, hnx, ha, by omega, by omega, ⟨hB _, (M _).hv, (M _).hm, (hT5 _), (hT6 _), f0 _, (M _).hb, (M 0).he, hlv⟩, rfl⟩
set_option maxHeartbeats 4000000 in
theorem step_22 (v p F bt mm cap : Nat) (x : Vm) (st : St) (A : Option Addr) (t : List Pg) (w : World) (hv : VmAt w v x) (hm : MemAt w p F st) (ht : Tb w bt (.slice A mm cap) t) (hbw : bt < w.heap.size) (a b : Nat) (m : Int) (ha : a < 16) (hb : b < 16) (hf : fetI x st t = (⟨22, a, b, m⟩, 0)) :
    Calls Tryz.prog 11 #[ptr v, ptr p, .slice A mm cap] w (StepQ w v p F (touchV 22 x st t a ((x.r b + m) % 4294967296) 1 ((x.pl + 4) % 4294967296)).1 (touchV 22 x st t a ((x.r b + m) % 4294967296) 1 ((x.pl + 4) % 4294967296)).2.1 (touchV 22 x st t a ((x.r b + m) % 4294967296) 1 ((x.pl + 4) % 4294967296)).2.2) := by
  have HFe := Lib.hid (fetched hv hm ht hbw)
  rw [hf] at HFe
  have HT := Lib.hid (fun n W => trapped_any n W)
  have ka : 0 ≤ x.r a ∧ x.r a < 4294967296 := hv.r a
  have kb : 0 ≤ x.r b ∧ x.r b < 4294967296 := hv.r b
  have kp : 0 ≤ x.pl ∧ x.pl < 4294967296 := hv.p
  have hvl := hv.lt
  have hlv : v < w.heap.size ∧ F < w.heap.size := ⟨hv.lt, hm.ltF⟩
  clear hv hm ht hf
  go_enter Tryz.func11, Tryz.ntmps11
  go_wp2
  refine scope_step rfl w v p F w.heap.size (touchV 22 x st t a ((x.r b + m) % 4294967296) 1 ((x.pl + 4) % 4294967296)).1 (touchV 22 x st t a ((x.r b + m) % 4294967296) 1 ((x.pl + 4) % 4294967296)).2.1 (touchV 22 x st t a ((x.r b + m) % 4294967296) 1 ((x.pl + 4) % 4294967296)).2.2 _ _ ?_
  go_wp2_with (first
    | (go_at_call 41; refine HFe.out.mono ?_; rintro e w1 ⟨rfl, hM, hT, hT2, hF⟩; have c0 := hM.hv.reg ha; have c1 := hM.hv.reg hb; have cp := hM.hv.place; have cw := hM.hv.waits; have cf := hM.hv.frozen; have hv2 : v < w1.heap.size := hM.hv.lt; have e0 : w1.cell? ⟨w.heap.size, 0, none⟩ = some (.int .i64 0) := hM.hb.cell 0; have e1 : w1.cell? ⟨w.heap.size, 1, none⟩ = some (.int .i64 0) := hM.hb.cell 1; have ef := hM.hb.frozen; have el : w.heap.size < w1.heap.size := hM.hb.lt; have HM := Lib.hid hM; have HTb := Lib.hid (And.intro hT hT2); have HF := Lib.hid hF; clear hM hT hT2 hF HFe)
    | fail)
  go_quiet (fail)
  go_wp2_with fail
  have hnx : u32b ((x.pl + 4) % 4294967296) := by unfold u32b; omega
  refine wp_goto ?_
  have M := fun q => HM.out.fr (((Fr.refl [] w1).alloc (.cells #[.int .i64 22, .int .i64 (a : Int), .int .i64 (b : Int), .int .i64 m] 55)).drewN q)
  have hB := fun q => (show Blk ((w1.alloc (.cells #[.int .i64 22, .int .i64 (a : Int), .int .i64 (b : Int), .int .i64 m] 55)).drewN q) w1.heap.size 55 _ from (Blk.new w1 55 _).drewN q)
  have hT5 := fun q => HTb.out.1.fr (((Fr.refl [] w1).alloc (.cells #[.int .i64 22, .int .i64 (a : Int), .int .i64 (b : Int), .int .i64 m] 55)).drewN q) (by simp)
  have hT6 := fun q => Nat.lt_of_lt_of_le HTb.out.2 ((((Fr.refl [] w1).alloc (.cells #[.int .i64 22, .int .i64 (a : Int), .int .i64 (b : Int), .int .i64 m] 55)).drewN q)).size
  have f0 := fun q => (show Fr [] w ((w1.alloc (.cells #[.int .i64 22, .int .i64 (a : Int), .int .i64 (b : Int), .int .i64 m] 55)).drewN q) from HF.out.trans (((Fr.refl [] w1).alloc (.cells #[.int .i64 22, .int .i64 (a : Int), .int .i64 (b : Int), .int .i64 m] 55)).drewN q))
  exact ⟨_, rfl, rfl, rfl, rfl, rfl, w1.heap.size, bt, mm, cap, A, 22, a, (a : Int), (b : Int), m, ((x.r b + m) % 4294967296), 1, ((x.pl + 4) % 4294967296), x, st, t, rfl, rfl, rfl, rfl, rfl, rfl, hnx, ha, by omega, by omega, ⟨hB _, (M _).hv, (M _).hm, (hT5 _), (hT6 _), f0 _, (M _).hb, (M 0).he, hlv⟩, rfl⟩
set_option maxHeartbeats 4000000 in
theorem step_23 (v p F bt mm cap : Nat) (x : Vm) (st : St) (A : Option Addr) (t : List Pg) (w : World) (hv : VmAt w v x) (hm : MemAt w p F st) (ht : Tb w bt (.slice A mm cap) t) (hbw : bt < w.heap.size) (a b : Nat) (m : Int) (ha : a < 16) (hb : b < 16) (hf : fetI x st t = (⟨23, a, b, m⟩, 0)) :
    Calls Tryz.prog 11 #[ptr v, ptr p, .slice A mm cap] w (StepQ w v p F (touchV 23 x st t a ((x.r b + m) % 4294967296) 4 ((x.pl + 4) % 4294967296)).1 (touchV 23 x st t a ((x.r b + m) % 4294967296) 4 ((x.pl + 4) % 4294967296)).2.1 (touchV 23 x st t a ((x.r b + m) % 4294967296) 4 ((x.pl + 4) % 4294967296)).2.2) := by
  have HFe := Lib.hid (fetched hv hm ht hbw)
  rw [hf] at HFe
  have HT := Lib.hid (fun n W => trapped_any n W)
  have ka : 0 ≤ x.r a ∧ x.r a < 4294967296 := hv.r a
  have kb : 0 ≤ x.r b ∧ x.r b < 4294967296 := hv.r b
  have kp : 0 ≤ x.pl ∧ x.pl < 4294967296 := hv.p
  have hvl := hv.lt
  have hlv : v < w.heap.size ∧ F < w.heap.size := ⟨hv.lt, hm.ltF⟩
  clear hv hm ht hf
  go_enter Tryz.func11, Tryz.ntmps11
  go_wp2
  refine scope_step rfl w v p F w.heap.size (touchV 23 x st t a ((x.r b + m) % 4294967296) 4 ((x.pl + 4) % 4294967296)).1 (touchV 23 x st t a ((x.r b + m) % 4294967296) 4 ((x.pl + 4) % 4294967296)).2.1 (touchV 23 x st t a ((x.r b + m) % 4294967296) 4 ((x.pl + 4) % 4294967296)).2.2 _ _ ?_
  go_wp2_with (first
    | (go_at_call 41; refine HFe.out.mono ?_; rintro e w1 ⟨rfl, hM, hT, hT2, hF⟩; have c0 := hM.hv.reg ha; have c1 := hM.hv.reg hb; have cp := hM.hv.place; have cw := hM.hv.waits; have cf := hM.hv.frozen; have hv2 : v < w1.heap.size := hM.hv.lt; have e0 : w1.cell? ⟨w.heap.size, 0, none⟩ = some (.int .i64 0) := hM.hb.cell 0; have e1 : w1.cell? ⟨w.heap.size, 1, none⟩ = some (.int .i64 0) := hM.hb.cell 1; have ef := hM.hb.frozen; have el : w.heap.size < w1.heap.size := hM.hb.lt; have HM := Lib.hid hM; have HTb := Lib.hid (And.intro hT hT2); have HF := Lib.hid hF; clear hM hT hT2 hF HFe)
    | fail)
  go_quiet (fail)
  go_wp2_with fail
  have hnx : u32b ((x.pl + 4) % 4294967296) := by unfold u32b; omega
  refine wp_goto ?_
  have M := fun q => HM.out.fr (((Fr.refl [] w1).alloc (.cells #[.int .i64 23, .int .i64 (a : Int), .int .i64 (b : Int), .int .i64 m] 55)).drewN q)
  have hB := fun q => (show Blk ((w1.alloc (.cells #[.int .i64 23, .int .i64 (a : Int), .int .i64 (b : Int), .int .i64 m] 55)).drewN q) w1.heap.size 55 _ from (Blk.new w1 55 _).drewN q)
  have hT5 := fun q => HTb.out.1.fr (((Fr.refl [] w1).alloc (.cells #[.int .i64 23, .int .i64 (a : Int), .int .i64 (b : Int), .int .i64 m] 55)).drewN q) (by simp)
  have hT6 := fun q => Nat.lt_of_lt_of_le HTb.out.2 ((((Fr.refl [] w1).alloc (.cells #[.int .i64 23, .int .i64 (a : Int), .int .i64 (b : Int), .int .i64 m] 55)).drewN q)).size
  have f0 := fun q => (show Fr [] w ((w1.alloc (.cells #[.int .i64 23, .int .i64 (a : Int), .int .i64 (b : Int), .int .i64 m] 55)).drewN q) from HF.out.trans (((Fr.refl [] w1).alloc (.cells #[.int .i64 23, .int .i64 (a : Int), .int .i64 (b : Int), .int .i64 m] 55)).drewN q))
  exact ⟨_, rfl, rfl, rfl, rfl, rfl, w1.heap.size, bt, mm, cap, A, 23, a, (a : Int), (b : Int), m, ((x.r b + m) % 4294967296), 4, ((x.pl + 4) % 4294967296), x, st, t, rfl, rfl, rfl, rfl, rfl, rfl, hnx, ha, by omega, by omega, ⟨hB _, (M _).hv, (M _).hm, (hT5 _), (hT6 _), f0 _, (M _).hb, (M 0).he, hlv⟩, rfl⟩
end Go.Proofs.YtbmaecdlkchkeaaGreatDoor
namespace Go.Proofs.YtbmaecdlkchkeaaGreatDoor
open Go.RowKit
set_option linter.unusedVariables false
set_option linter.unusedSimpArgs false
set_option maxRecDepth 100000
theorem bits_u32 (op : BinOp) (hop : op = .and ∨ op = .or ∨ op = .xor) (a b : Int) : u32b (bits op .u32 a b) := by
  rcases hop with rfl | rfl | rfl
  · show u32b (IntKind.u32.wrap _)
    rw [IntKind.wrap_u32]
    unfold u32b
    omega
  · show u32b (IntKind.u32.wrap _)
    rw [IntKind.wrap_u32]
    unfold u32b
    omega
  · show u32b (IntKind.u32.wrap _)
    rw [IntKind.wrap_u32]
    unfold u32b
    omega
def hiV (a m : Int) : Int := bits .or .u32 (bits .and .u32 a 65535) (m % 4294967296 * 65536 % 4294967296)
theorem hiV_u32 (a m : Int) : u32b (hiV a m) := bits_u32 .or (by simp) _ _
theorem div_u32 {a b : Int} (ha : 0 ≤ a ∧ a < 4294967296) (hb : 0 ≤ b ∧ b < 4294967296) : u32b (a / b) := by
  have h1 := Int.ediv_nonneg ha.1 hb.1
  have h2 := Int.ediv_le_self b ha.1
  unfold u32b
  omega
theorem rem_u32 {a b : Int} (ha : 0 ≤ a ∧ a < 4294967296) (hb : 0 ≤ b ∧ b < 4294967296) (hz : b ≠ 0) : u32b (a % b) := by
  have h1 := Int.emod_nonneg a hz
  have h2 := Int.emod_lt_of_pos a (show 0 < b by omega)
  unfold u32b
  omega
set_option maxHeartbeats 4000000 in
theorem step_3 (v p F bt mm cap : Nat) (x : Vm) (st : St) (A : Option Addr) (t : List Pg) (w : World) (hv : VmAt w v x) (hm : MemAt w p F st) (ht : Tb w bt (.slice A mm cap) t) (hbw : bt < w.heap.size) (a b : Nat) (m : Int) (ha : a < 16) (hb : b < 16) (hf : fetI x st t = (⟨3, a, b, m⟩, 0)) :
    Calls Tryz.prog 11 #[ptr v, ptr p, .slice A mm cap] w (StepQ w v p F (0, 0) (putP (putR x a (hiV (x.r a) m)) ((x.pl + 4) % 4294967296)) st) := by
  have HFe := Lib.hid (fetched hv hm ht hbw)
  rw [hf] at HFe
  have HT := Lib.hid (fun n W => trapped_any n W)
  have ka : 0 ≤ x.r a ∧ x.r a < 4294967296 := hv.r a
  have kb : 0 ≤ x.r b ∧ x.r b < 4294967296 := hv.r b
  have kp : 0 ≤ x.pl ∧ x.pl < 4294967296 := hv.p
  have hvl := hv.lt
  obtain ⟨X, hX⟩ : ∃ X, (putP (putR x a (hiV (x.r a) m)) ((x.pl + 4) % 4294967296)) = X := ⟨_, rfl⟩
  rw [hX]
  have HX := Lib.hid hX
  clear hX
  clear hv hm ht hf
  go_enter Tryz.func11, Tryz.ntmps11
  go_wp2
  refine scope_step rfl w v p F w.heap.size (0, 0) X st _ _ ?_
  go_wp2_with (first
    | (go_at_call 41; refine HFe.out.mono ?_; rintro e w1 ⟨rfl, hM, hT, hT2, hF⟩; have c0 := hM.hv.reg ha; have c1 := hM.hv.reg hb; have cp := hM.hv.place; have cw := hM.hv.waits; have cf := hM.hv.frozen; have hv2 : v < w1.heap.size := hM.hv.lt; have e0 : w1.cell? ⟨w.heap.size, 0, none⟩ = some (.int .i64 0) := hM.hb.cell 0; have e1 : w1.cell? ⟨w.heap.size, 1, none⟩ = some (.int .i64 0) := hM.hb.cell 1; have ef := hM.hb.frozen; have el : w.heap.size < w1.heap.size := hM.hb.lt; have HM := Lib.hid hM; have HTb := Lib.hid (And.intro hT hT2); have HF := Lib.hid hF; clear hM hT hT2 hF HFe)
    | fail)
  go_quiet (fail)
  go_wp2_with fail
  go_region
  go_wp2_with fail
  have hnx : u32b ((x.pl + 4) % 4294967296) := by unfold u32b; omega
  refine wp_goto ?_
  have M := fun q => (HM.out.fr (((Fr.refl [] w1).alloc (.cells #[.int .i64 3, .int .i64 (a : Int), .int .i64 (b : Int), .int .i64 m] 55)).drewN q)).put ha (hiV_u32 (x.r a) m)
  exact ⟨_, rfl, rfl, rfl, rfl, ((x.pl + 4) % 4294967296), (putR x a (hiV (x.r a) m)), rfl, hnx, (M _).hv, HX.out, (M _).hm, (M _).hf, (M _).hb, (M 0).he⟩
set_option maxHeartbeats 4000000 in
theorem step_19 (v p F bt mm cap : Nat) (x : Vm) (st : St) (A : Option Addr) (t : List Pg) (w : World) (hv : VmAt w v x) (hm : MemAt w p F st) (ht : Tb w bt (.slice A mm cap) t) (hbw : bt < w.heap.size) (a b : Nat) (m : Int) (ha : a < 16) (hb : b < 16) (hf : fetI x st t = (⟨19, a, b, m⟩, 0)) :
    Calls Tryz.prog 11 #[ptr v, ptr p, .slice A mm cap] w (StepQ w v p F (0, 0) (putP (putR x a ((x.r a + m) % 4294967296)) ((x.pl + 4) % 4294967296)) st) := by
  have HFe := Lib.hid (fetched hv hm ht hbw)
  rw [hf] at HFe
  have HT := Lib.hid (fun n W => trapped_any n W)
  have ka : 0 ≤ x.r a ∧ x.r a < 4294967296 := hv.r a
  have kb : 0 ≤ x.r b ∧ x.r b < 4294967296 := hv.r b
  have kp : 0 ≤ x.pl ∧ x.pl < 4294967296 := hv.p
  have hvl := hv.lt
  obtain ⟨X, hX⟩ : ∃ X, (putP (putR x a ((x.r a + m) % 4294967296)) ((x.pl + 4) % 4294967296)) = X := ⟨_, rfl⟩
  rw [hX]
  have HX := Lib.hid hX
  clear hX
  clear hv hm ht hf
  go_enter Tryz.func11, Tryz.ntmps11
  go_wp2
  refine scope_step rfl w v p F w.heap.size (0, 0) X st _ _ ?_
  go_wp2_with (first
    | (go_at_call 41; refine HFe.out.mono ?_; rintro e w1 ⟨rfl, hM, hT, hT2, hF⟩; have c0 := hM.hv.reg ha; have c1 := hM.hv.reg hb; have cp := hM.hv.place; have cw := hM.hv.waits; have cf := hM.hv.frozen; have hv2 : v < w1.heap.size := hM.hv.lt; have e0 : w1.cell? ⟨w.heap.size, 0, none⟩ = some (.int .i64 0) := hM.hb.cell 0; have e1 : w1.cell? ⟨w.heap.size, 1, none⟩ = some (.int .i64 0) := hM.hb.cell 1; have ef := hM.hb.frozen; have el : w.heap.size < w1.heap.size := hM.hb.lt; have HM := Lib.hid hM; have HTb := Lib.hid (And.intro hT hT2); have HF := Lib.hid hF; clear hM hT hT2 hF HFe)
    | fail)
  go_quiet (fail)
  go_wp2_with fail
  go_region
  go_wp2_with fail
  have hnx : u32b ((x.pl + 4) % 4294967296) := by unfold u32b; omega
  refine wp_goto ?_
  have M := fun q => (HM.out.fr (((Fr.refl [] w1).alloc (.cells #[.int .i64 19, .int .i64 (a : Int), .int .i64 (b : Int), .int .i64 m] 55)).drewN q)).put ha (show u32b ((x.r a + m) % 4294967296) by unfold u32b; omega)
  exact ⟨_, rfl, rfl, rfl, rfl, ((x.pl + 4) % 4294967296), (putR x a ((x.r a + m) % 4294967296)), rfl, hnx, (M _).hv, HX.out, (M _).hm, (M _).hf, (M _).hb, (M 0).he⟩
set_option maxHeartbeats 4000000 in
theorem step_29 (v p F bt mm cap : Nat) (x : Vm) (st : St) (A : Option Addr) (t : List Pg) (w : World) (hv : VmAt w v x) (hm : MemAt w p F st) (ht : Tb w bt (.slice A mm cap) t) (hbw : bt < w.heap.size) (a b : Nat) (m : Int) (ha : a < 16) (hb : b < 16) (hf : fetI x st t = (⟨29, a, b, m⟩, 0)) :
    Calls Tryz.prog 11 #[ptr v, ptr p, .slice A mm cap] w (StepQ w v p F (3, m) (putP (putW x true) ((x.pl + 4) % 4294967296)) st) := by
  have HFe := Lib.hid (fetched hv hm ht hbw)
  rw [hf] at HFe
  have HT := Lib.hid (fun n W => trapped_any n W)
  have ka : 0 ≤ x.r a ∧ x.r a < 4294967296 := hv.r a
  have kb : 0 ≤ x.r b ∧ x.r b < 4294967296 := hv.r b
  have kp : 0 ≤ x.pl ∧ x.pl < 4294967296 := hv.p
  have hvl := hv.lt
  obtain ⟨X, hX⟩ : ∃ X, (putP (putW x true) ((x.pl + 4) % 4294967296)) = X := ⟨_, rfl⟩
  rw [hX]
  have HX := Lib.hid hX
  clear hX
  clear hv hm ht hf
  go_enter Tryz.func11, Tryz.ntmps11
  go_wp2
  refine scope_step rfl w v p F w.heap.size (3, m) X st _ _ ?_
  go_wp2_with (first
    | (go_at_call 41; refine HFe.out.mono ?_; rintro e w1 ⟨rfl, hM, hT, hT2, hF⟩; have c0 := hM.hv.reg ha; have c1 := hM.hv.reg hb; have cp := hM.hv.place; have cw := hM.hv.waits; have cf := hM.hv.frozen; have hv2 : v < w1.heap.size := hM.hv.lt; have e0 : w1.cell? ⟨w.heap.size, 0, none⟩ = some (.int .i64 0) := hM.hb.cell 0; have e1 : w1.cell? ⟨w.heap.size, 1, none⟩ = some (.int .i64 0) := hM.hb.cell 1; have ef := hM.hb.frozen; have el : w.heap.size < w1.heap.size := hM.hb.lt; have HM := Lib.hid hM; have HTb := Lib.hid (And.intro hT hT2); have HF := Lib.hid hF; clear hM hT hT2 hF HFe)
    | fail)
  go_quiet (fail)
  go_wp2_with fail
  go_region
  go_wp2_with fail
  have hnx : u32b ((x.pl + 4) % 4294967296) := by unfold u32b; omega
  refine wp_goto ?_
  have M := fun q => ((HM.out.fr (((Fr.refl [] w1).alloc (.cells #[.int .i64 29, .int .i64 (a : Int), .int .i64 (b : Int), .int .i64 m] 55)).drewN q)).wait true).end_ 3 m
  exact ⟨_, rfl, rfl, rfl, rfl, ((x.pl + 4) % 4294967296), putW x true, rfl, hnx, (M _).2.2.1, HX.out, (M _).2.2.2.1, (M _).2.2.2.2, (M _).1, Nat.le_refl _⟩
set_option maxHeartbeats 4000000 in
theorem step_8 (v p F bt mm cap : Nat) (x : Vm) (st : St) (A : Option Addr) (t : List Pg) (w : World) (hv : VmAt w v x) (hm : MemAt w p F st) (ht : Tb w bt (.slice A mm cap) t) (hbw : bt < w.heap.size) (a b : Nat) (m : Int) (ha : a < 16) (hb : b < 16) (hz : x.r b ≠ 0) (hf : fetI x st t = (⟨8, a, b, m⟩, 0)) :
    Calls Tryz.prog 11 #[ptr v, ptr p, .slice A mm cap] w (StepQ w v p F (0, 0) (putP (putR x a (x.r a / x.r b)) ((x.pl + 4) % 4294967296)) st) := by
  have HFe := Lib.hid (fetched hv hm ht hbw)
  rw [hf] at HFe
  have HT := Lib.hid (fun n W => trapped_any n W)
  have ka : 0 ≤ x.r a ∧ x.r a < 4294967296 := hv.r a
  have kb : 0 ≤ x.r b ∧ x.r b < 4294967296 := hv.r b
  have kp : 0 ≤ x.pl ∧ x.pl < 4294967296 := hv.p
  have hvl := hv.lt
  have hzb : (x.r b == 0) = false := by simpa using hz
  obtain ⟨X, hX⟩ : ∃ X, (putP (putR x a (x.r a / x.r b)) ((x.pl + 4) % 4294967296)) = X := ⟨_, rfl⟩
  rw [hX]
  have HX := Lib.hid hX
  clear hX
  clear hv hm ht hf
  go_enter Tryz.func11, Tryz.ntmps11
  go_wp2
  refine scope_step rfl w v p F w.heap.size (0, 0) X st _ _ ?_
  go_wp2_with (first
    | (go_at_call 41; refine HFe.out.mono ?_; rintro e w1 ⟨rfl, hM, hT, hT2, hF⟩; have c0 := hM.hv.reg ha; have c1 := hM.hv.reg hb; have cp := hM.hv.place; have cw := hM.hv.waits; have cf := hM.hv.frozen; have hv2 : v < w1.heap.size := hM.hv.lt; have e0 : w1.cell? ⟨w.heap.size, 0, none⟩ = some (.int .i64 0) := hM.hb.cell 0; have e1 : w1.cell? ⟨w.heap.size, 1, none⟩ = some (.int .i64 0) := hM.hb.cell 1; have ef := hM.hb.frozen; have el : w.heap.size < w1.heap.size := hM.hb.lt; have HM := Lib.hid hM; have HTb := Lib.hid (And.intro hT hT2); have HF := Lib.hid hF; clear hM hT hT2 hF HFe)
    | fail)
  go_quiet (fail)
  go_wp2_with fail
  have hdv : u32b (x.r a / x.r b) := div_u32 ka kb
  have hnx : u32b ((x.pl + 4) % 4294967296) := by unfold u32b; omega
  refine wp_goto ?_
  have M := fun q => (HM.out.fr (((Fr.refl [] w1).alloc (.cells #[.int .i64 8, .int .i64 (a : Int), .int .i64 (b : Int), .int .i64 m] 55)).drewN q)).put ha hdv
  exact ⟨_, rfl, rfl, rfl, rfl, ((x.pl + 4) % 4294967296), (putR x a (x.r a / x.r b)), rfl, hnx, (M _).hv, HX.out, (M _).hm, (M _).hf, (M _).hb, (M 0).he⟩
set_option maxHeartbeats 4000000 in
theorem step_9 (v p F bt mm cap : Nat) (x : Vm) (st : St) (A : Option Addr) (t : List Pg) (w : World) (hv : VmAt w v x) (hm : MemAt w p F st) (ht : Tb w bt (.slice A mm cap) t) (hbw : bt < w.heap.size) (a b : Nat) (m : Int) (ha : a < 16) (hb : b < 16) (hz : x.r b ≠ 0) (hf : fetI x st t = (⟨9, a, b, m⟩, 0)) :
    Calls Tryz.prog 11 #[ptr v, ptr p, .slice A mm cap] w (StepQ w v p F (0, 0) (putP (putR x a (x.r a % x.r b)) ((x.pl + 4) % 4294967296)) st) := by
  have HFe := Lib.hid (fetched hv hm ht hbw)
  rw [hf] at HFe
  have HT := Lib.hid (fun n W => trapped_any n W)
  have ka : 0 ≤ x.r a ∧ x.r a < 4294967296 := hv.r a
  have kb : 0 ≤ x.r b ∧ x.r b < 4294967296 := hv.r b
  have kp : 0 ≤ x.pl ∧ x.pl < 4294967296 := hv.p
  have hvl := hv.lt
  have hzb : (x.r b == 0) = false := by simpa using hz
  have hrm : (x.r a).tmod (x.r b) = x.r a % x.r b := Int.tmod_eq_emod_of_nonneg ka.1
  obtain ⟨X, hX⟩ : ∃ X, (putP (putR x a (x.r a % x.r b)) ((x.pl + 4) % 4294967296)) = X := ⟨_, rfl⟩
  rw [hX]
  have HX := Lib.hid hX
  clear hX
  clear hv hm ht hf
  go_enter Tryz.func11, Tryz.ntmps11
  go_wp2
  refine scope_step rfl w v p F w.heap.size (0, 0) X st _ _ ?_
  go_wp2_with (first
    | (go_at_call 41; refine HFe.out.mono ?_; rintro e w1 ⟨rfl, hM, hT, hT2, hF⟩; have c0 := hM.hv.reg ha; have c1 := hM.hv.reg hb; have cp := hM.hv.place; have cw := hM.hv.waits; have cf := hM.hv.frozen; have hv2 : v < w1.heap.size := hM.hv.lt; have e0 : w1.cell? ⟨w.heap.size, 0, none⟩ = some (.int .i64 0) := hM.hb.cell 0; have e1 : w1.cell? ⟨w.heap.size, 1, none⟩ = some (.int .i64 0) := hM.hb.cell 1; have ef := hM.hb.frozen; have el : w.heap.size < w1.heap.size := hM.hb.lt; have HM := Lib.hid hM; have HTb := Lib.hid (And.intro hT hT2); have HF := Lib.hid hF; clear hM hT hT2 hF HFe)
    | fail)
  go_quiet (fail)
  go_wp2_with fail
  have hdv : u32b (x.r a % x.r b) := rem_u32 ka kb hz
  have hnx : u32b ((x.pl + 4) % 4294967296) := by unfold u32b; omega
  refine wp_goto ?_
  have M := fun q => (HM.out.fr (((Fr.refl [] w1).alloc (.cells #[.int .i64 9, .int .i64 (a : Int), .int .i64 (b : Int), .int .i64 m] 55)).drewN q)).put ha hdv
  exact ⟨_, rfl, rfl, rfl, rfl, ((x.pl + 4) % 4294967296), (putR x a (x.r a % x.r b)), rfl, hnx, (M _).hv, HX.out, (M _).hm, (M _).hf, (M _).hb, (M 0).he⟩
set_option maxHeartbeats 4000000 in
theorem step_8_z (v p F bt mm cap : Nat) (x : Vm) (st : St) (A : Option Addr) (t : List Pg) (w : World) (hv : VmAt w v x) (hm : MemAt w p F st) (ht : Tb w bt (.slice A mm cap) t) (hbw : bt < w.heap.size) (a b : Nat) (m : Int) (ha : a < 16) (hb : b < 16) (hz : x.r b = 0) (hf : fetI x st t = (⟨8, a, b, m⟩, 0)) :
    Calls Tryz.prog 11 #[ptr v, ptr p, .slice A mm cap] w (StepQ w v p F (2, 5) x st) := by
  have HFe := Lib.hid (fetched hv hm ht hbw)
  rw [hf] at HFe
  have HT := Lib.hid (fun n W => trapped_any n W)
  have ka : 0 ≤ x.r a ∧ x.r a < 4294967296 := hv.r a
  have kb : 0 ≤ x.r b ∧ x.r b < 4294967296 := hv.r b
  have kp : 0 ≤ x.pl ∧ x.pl < 4294967296 := hv.p
  have hvl := hv.lt
  have hzb : (x.r b == 0) = true := by simpa using hz
  clear hz
  clear hv hm ht hf
  go_enter Tryz.func11, Tryz.ntmps11
  go_wp2
  refine scope_step rfl w v p F w.heap.size (2, 5) x st _ _ ?_
  go_wp2_with (first
    | (go_at_call 41; refine HFe.out.mono ?_; rintro e w1 ⟨rfl, hM, hT, hT2, hF⟩; have c0 := hM.hv.reg ha; have c1 := hM.hv.reg hb; have cp := hM.hv.place; have cw := hM.hv.waits; have cf := hM.hv.frozen; have hv2 : v < w1.heap.size := hM.hv.lt; have e0 : w1.cell? ⟨w.heap.size, 0, none⟩ = some (.int .i64 0) := hM.hb.cell 0; have e1 : w1.cell? ⟨w.heap.size, 1, none⟩ = some (.int .i64 0) := hM.hb.cell 1; have ef := hM.hb.frozen; have el : w.heap.size < w1.heap.size := hM.hb.lt; have HM := Lib.hid hM; have HTb := Lib.hid (And.intro hT hT2); have HF := Lib.hid hF; clear hM hT hT2 hF HFe)
    | fail)
  go_quiet (fail)
  go_wp2_with (go_at_call 42; refine (HT.out _ _).mono ?_; rintro e w2 ⟨rfl, hf⟩; have HM2 := Lib.hid ((HM.out.fr (((Fr.refl [] w1).alloc (.cells #[.int .i64 8, .int .i64 (a : Int), .int .i64 (b : Int), .int .i64 m] 55)).drewN _)).fr hf); clear hf e0 e1 ef; have e0 : w2.cell? ⟨w.heap.size, 0, none⟩ = some (.int .i64 0) := HM2.out.hb.cell 0; have e1 : w2.cell? ⟨w.heap.size, 1, none⟩ = some (.int .i64 0) := HM2.out.hb.cell 1; have ef := HM2.out.hb.frozen; have HE := HM2.out.end_ 2 5)
  unfold jumps
  refine bodyPost_ret (v := .agg #[.int .i64 2, .int .i64 5]) ?_ rfl HE.2
  exact results_cell_row Tryz.results11 _ _ w.heap.size 39 _ (0, 0) _ rfl HE.1 Tryz.underlying39 rfl (by kernel_rfl)
set_option maxHeartbeats 4000000 in
theorem step_9_z (v p F bt mm cap : Nat) (x : Vm) (st : St) (A : Option Addr) (t : List Pg) (w : World) (hv : VmAt w v x) (hm : MemAt w p F st) (ht : Tb w bt (.slice A mm cap) t) (hbw : bt < w.heap.size) (a b : Nat) (m : Int) (ha : a < 16) (hb : b < 16) (hz : x.r b = 0) (hf : fetI x st t = (⟨9, a, b, m⟩, 0)) :
    Calls Tryz.prog 11 #[ptr v, ptr p, .slice A mm cap] w (StepQ w v p F (2, 5) x st) := by
  have HFe := Lib.hid (fetched hv hm ht hbw)
  rw [hf] at HFe
  have HT := Lib.hid (fun n W => trapped_any n W)
  have ka : 0 ≤ x.r a ∧ x.r a < 4294967296 := hv.r a
  have kb : 0 ≤ x.r b ∧ x.r b < 4294967296 := hv.r b
  have kp : 0 ≤ x.pl ∧ x.pl < 4294967296 := hv.p
  have hvl := hv.lt
  have hzb : (x.r b == 0) = true := by simpa using hz
  clear hz
  clear hv hm ht hf
  go_enter Tryz.func11, Tryz.ntmps11
  go_wp2
  refine scope_step rfl w v p F w.heap.size (2, 5) x st _ _ ?_
  go_wp2_with (first
    | (go_at_call 41; refine HFe.out.mono ?_; rintro e w1 ⟨rfl, hM, hT, hT2, hF⟩; have c0 := hM.hv.reg ha; have c1 := hM.hv.reg hb; have cp := hM.hv.place; have cw := hM.hv.waits; have cf := hM.hv.frozen; have hv2 : v < w1.heap.size := hM.hv.lt; have e0 : w1.cell? ⟨w.heap.size, 0, none⟩ = some (.int .i64 0) := hM.hb.cell 0; have e1 : w1.cell? ⟨w.heap.size, 1, none⟩ = some (.int .i64 0) := hM.hb.cell 1; have ef := hM.hb.frozen; have el : w.heap.size < w1.heap.size := hM.hb.lt; have HM := Lib.hid hM; have HTb := Lib.hid (And.intro hT hT2); have HF := Lib.hid hF; clear hM hT hT2 hF HFe)
    | fail)
  go_quiet (fail)
  go_wp2_with (go_at_call 42; refine (HT.out _ _).mono ?_; rintro e w2 ⟨rfl, hf⟩; have HM2 := Lib.hid ((HM.out.fr (((Fr.refl [] w1).alloc (.cells #[.int .i64 9, .int .i64 (a : Int), .int .i64 (b : Int), .int .i64 m] 55)).drewN _)).fr hf); clear hf e0 e1 ef; have e0 : w2.cell? ⟨w.heap.size, 0, none⟩ = some (.int .i64 0) := HM2.out.hb.cell 0; have e1 : w2.cell? ⟨w.heap.size, 1, none⟩ = some (.int .i64 0) := HM2.out.hb.cell 1; have ef := HM2.out.hb.frozen; have HE := HM2.out.end_ 2 5)
  unfold jumps
  refine bodyPost_ret (v := .agg #[.int .i64 2, .int .i64 5]) ?_ rfl HE.2
  exact results_cell_row Tryz.results11 _ _ w.heap.size 39 _ (0, 0) _ rfl HE.1 Tryz.underlying39 rfl (by kernel_rfl)
theorem sumV_u32 (k : Nat) (hk : isSum k) {a b : Int} (ha : 0 ≤ a ∧ a < 4294967296) (hb : 0 ≤ b ∧ b < 4294967296) : u32b (sumV k a b) := by
  rcases hk with rfl | rfl | rfl | rfl | rfl | rfl | rfl | rfl | rfl | rfl | rfl | rfl | rfl
  · exact hb
  · show u32b ((a + b) % 4294967296); unfold u32b; omega
  · show u32b ((a - b) % 4294967296); unfold u32b; omega
  · show u32b (a * b % 4294967296); unfold u32b; omega
  · exact bits_u32 .and (by simp) a b
  · exact bits_u32 .or (by simp) a b
  · exact bits_u32 .xor (by simp) a b
  · exact bits_u32 .xor (by simp) _ a
  · show u32b (IntKind.u32.wrap _)
    rw [IntKind.wrap_u32]
    unfold u32b
    omega
  · show u32b (a / 2 ^ (b % 32).toNat)
    have h1 : (0 : Int) ≤ 2 ^ (b % 32).toNat := Int.pow_nonneg (by decide)
    have h2 := Int.ediv_nonneg ha.1 h1
    have h3 := Int.ediv_le_self (2 ^ (b % 32).toNat) ha.1
    unfold u32b
    omega
  · show u32b (flagV _); unfold flagV u32b; split <;> omega
  · show u32b (flagV _); unfold flagV u32b; split <;> omega
  · show u32b (flagV _); unfold flagV u32b; split <;> omega
end Go.Proofs.YtbmaecdlkchkeaaGreatDoor

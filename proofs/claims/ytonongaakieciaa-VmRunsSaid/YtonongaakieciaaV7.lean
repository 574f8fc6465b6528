/- The machine's step: plain operations. -/
import Derived.Test.YtonongaakieciaaV6
namespace Go.Proofs.Ytonongaakieciaa
open Go.RowKit
set_option linter.unusedVariables false
set_option linter.unusedSimpArgs false
set_option maxRecDepth 100000
set_option maxHeartbeats 4000000 in
theorem step_0 (v p F bt mm cap : Nat) (x : Vm) (st : St) (A : Option Addr) (t : List Pg) (w : World) (hv : VmAt w v x) (hm : MemAt w p F st) (ht : Tb w bt (.slice A mm cap) t) (hbw : bt < w.heap.size) (a b : Nat) (m : Int) (ha : a < 16) (hb : b < 16) (hf : fetI x st t = (⟨0, a, b, m⟩, 0)) :
    Calls Try.prog 34 #[ptr v, ptr p, .slice A mm cap] w (StepQ w v p F (0, 0) (putP x ((x.pl + 4) % 4294967296)) st) := by
  have HFe := Lib.hid (fetched hv hm ht hbw)
  rw [hf] at HFe
  have HT := Lib.hid (fun n W => trapped_any n W)
  have ka : 0 ≤ x.r a ∧ x.r a < 4294967296 := hv.r a
  have kb : 0 ≤ x.r b ∧ x.r b < 4294967296 := hv.r b
  have kp : 0 ≤ x.pl ∧ x.pl < 4294967296 := hv.p
  have hvl := hv.lt
  obtain ⟨X, hX⟩ : ∃ X, (putP x ((x.pl + 4) % 4294967296)) = X := ⟨_, rfl⟩
  rw [hX]
  have HX := Lib.hid hX
  clear hX
  clear hv hm ht hf
  go_enter Try.func34, Try.ntmps34
  go_wp2
  refine scope_step rfl w v p F w.heap.size (0, 0) X st _ _ ?_
  go_wp2_with (first
    | (go_at_call 74; refine HFe.out.mono ?_; rintro e w1 ⟨rfl, hM, hT, hT2, hF⟩; have c0 := hM.hv.reg ha; have c1 := hM.hv.reg hb; have cp := hM.hv.place; have cw := hM.hv.waits; have cf := hM.hv.frozen; have hv2 : v < w1.heap.size := hM.hv.lt; have e0 : w1.cell? ⟨w.heap.size, 0, none⟩ = some (.int .i64 0) := hM.hb.cell 0; have e1 : w1.cell? ⟨w.heap.size, 1, none⟩ = some (.int .i64 0) := hM.hb.cell 1; have ef := hM.hb.frozen; have el : w.heap.size < w1.heap.size := hM.hb.lt; have HM := Lib.hid hM; have HTb := Lib.hid (And.intro hT hT2); have HF := Lib.hid hF; clear hM hT hT2 hF HFe)
    | fail)
  go_quiet (fail)
  go_wp2_with fail
  have hnx : u32b ((x.pl + 4) % 4294967296) := by unfold u32b; omega
  refine wp_goto ?_
  have M := fun q => HM.out.fr (((Fr.refl [] w1).alloc (.cells #[.int .i64 0, .int .i64 (a : Int), .int .i64 (b : Int), .int .i64 m] 53)).drewN q)
  exact ⟨_, rfl, rfl, rfl, rfl, ((x.pl + 4) % 4294967296), x, rfl, hnx, (M _).hv, HX.out, (M _).hm, (M _).hf, (M _).hb, (M 0).he⟩
set_option maxHeartbeats 4000000 in
theorem step_1 (v p F bt mm cap : Nat) (x : Vm) (st : St) (A : Option Addr) (t : List Pg) (w : World) (hv : VmAt w v x) (hm : MemAt w p F st) (ht : Tb w bt (.slice A mm cap) t) (hbw : bt < w.heap.size) (a b : Nat) (m : Int) (ha : a < 16) (hb : b < 16) (hf : fetI x st t = (⟨1, a, b, m⟩, 0)) :
    Calls Try.prog 34 #[ptr v, ptr p, .slice A mm cap] w (StepQ w v p F (1, 0) x st) := by
  have HFe := Lib.hid (fetched hv hm ht hbw)
  rw [hf] at HFe
  have HT := Lib.hid (fun n W => trapped_any n W)
  have ka : 0 ≤ x.r a ∧ x.r a < 4294967296 := hv.r a
  have kb : 0 ≤ x.r b ∧ x.r b < 4294967296 := hv.r b
  have kp : 0 ≤ x.pl ∧ x.pl < 4294967296 := hv.p
  have hvl := hv.lt
  clear hv hm ht hf
  go_enter Try.func34, Try.ntmps34
  go_wp2
  refine scope_step rfl w v p F w.heap.size (1, 0) x st _ _ ?_
  go_wp2_with (first
    | (go_at_call 74; refine HFe.out.mono ?_; rintro e w1 ⟨rfl, hM, hT, hT2, hF⟩; have c0 := hM.hv.reg ha; have c1 := hM.hv.reg hb; have cp := hM.hv.place; have cw := hM.hv.waits; have cf := hM.hv.frozen; have hv2 : v < w1.heap.size := hM.hv.lt; have e0 : w1.cell? ⟨w.heap.size, 0, none⟩ = some (.int .i64 0) := hM.hb.cell 0; have e1 : w1.cell? ⟨w.heap.size, 1, none⟩ = some (.int .i64 0) := hM.hb.cell 1; have ef := hM.hb.frozen; have el : w.heap.size < w1.heap.size := hM.hb.lt; have HM := Lib.hid hM; have HTb := Lib.hid (And.intro hT hT2); have HF := Lib.hid hF; clear hM hT hT2 hF HFe)
    | fail)
  go_quiet (fail)
  go_wp2_with fail
  unfold jumps
  have HE := fun q => (HM.out.fr (((Fr.refl [] w1).alloc (.cells #[.int .i64 1, .int .i64 (a : Int), .int .i64 (b : Int), .int .i64 m] 53)).drewN q)).end_ 1 0
  refine bodyPost_ret (v := .agg #[.int .i64 1, .int .i64 0]) ?_ rfl (HE _).2
  exact results_cell_row Try.results34 _ _ w.heap.size 65 _ (0, 0) _ rfl (HE _).1 Try.underlying65 rfl (by kernel_rfl)
set_option maxHeartbeats 4000000 in
theorem step_2 (v p F bt mm cap : Nat) (x : Vm) (st : St) (A : Option Addr) (t : List Pg) (w : World) (hv : VmAt w v x) (hm : MemAt w p F st) (ht : Tb w bt (.slice A mm cap) t) (hbw : bt < w.heap.size) (a b : Nat) (m : Int) (ha : a < 16) (hb : b < 16) (hf : fetI x st t = (⟨2, a, b, m⟩, 0)) :
    Calls Try.prog 34 #[ptr v, ptr p, .slice A mm cap] w (StepQ w v p F (0, 0) (putP (putR x a (m % 4294967296)) ((x.pl + 4) % 4294967296)) st) := by
  have HFe := Lib.hid (fetched hv hm ht hbw)
  rw [hf] at HFe
  have HT := Lib.hid (fun n W => trapped_any n W)
  have ka : 0 ≤ x.r a ∧ x.r a < 4294967296 := hv.r a
  have kb : 0 ≤ x.r b ∧ x.r b < 4294967296 := hv.r b
  have kp : 0 ≤ x.pl ∧ x.pl < 4294967296 := hv.p
  have hvl := hv.lt
  obtain ⟨X, hX⟩ : ∃ X, (putP (putR x a (m % 4294967296)) ((x.pl + 4) % 4294967296)) = X := ⟨_, rfl⟩
  rw [hX]
  have HX := Lib.hid hX
  clear hX
  clear hv hm ht hf
  go_enter Try.func34, Try.ntmps34
  go_wp2
  refine scope_step rfl w v p F w.heap.size (0, 0) X st _ _ ?_
  go_wp2_with (first
    | (go_at_call 74; refine HFe.out.mono ?_; rintro e w1 ⟨rfl, hM, hT, hT2, hF⟩; have c0 := hM.hv.reg ha; have c1 := hM.hv.reg hb; have cp := hM.hv.place; have cw := hM.hv.waits; have cf := hM.hv.frozen; have hv2 : v < w1.heap.size := hM.hv.lt; have e0 : w1.cell? ⟨w.heap.size, 0, none⟩ = some (.int .i64 0) := hM.hb.cell 0; have e1 : w1.cell? ⟨w.heap.size, 1, none⟩ = some (.int .i64 0) := hM.hb.cell 1; have ef := hM.hb.frozen; have el : w.heap.size < w1.heap.size := hM.hb.lt; have HM := Lib.hid hM; have HTb := Lib.hid (And.intro hT hT2); have HF := Lib.hid hF; clear hM hT hT2 hF HFe)
    | fail)
  go_quiet (fail)
  go_wp2_with fail
  have hnx : u32b ((x.pl + 4) % 4294967296) := by unfold u32b; omega
  refine wp_goto ?_
  have M := fun q => (HM.out.fr (((Fr.refl [] w1).alloc (.cells #[.int .i64 2, .int .i64 (a : Int), .int .i64 (b : Int), .int .i64 m] 53)).drewN q)).put ha (show u32b (m % 4294967296) by unfold u32b; omega)
  exact ⟨_, rfl, rfl, rfl, rfl, ((x.pl + 4) % 4294967296), (putR x a (m % 4294967296)), rfl, hnx, (M _).hv, HX.out, (M _).hm, (M _).hf, (M _).hb, (M 0).he⟩
set_option maxHeartbeats 4000000 in
theorem step_24 (v p F bt mm cap : Nat) (x : Vm) (st : St) (A : Option Addr) (t : List Pg) (w : World) (hv : VmAt w v x) (hm : MemAt w p F st) (ht : Tb w bt (.slice A mm cap) t) (hbw : bt < w.heap.size) (a b : Nat) (m : Int) (ha : a < 16) (hb : b < 16) (hf : fetI x st t = (⟨24, a, b, m⟩, 0)) :
    Calls Try.prog 34 #[ptr v, ptr p, .slice A mm cap] w (StepQ w v p F (0, 0) (putP x ((((x.pl + 4) % 4294967296) + 4 * m) % 4294967296)) st) := by
  have HFe := Lib.hid (fetched hv hm ht hbw)
  rw [hf] at HFe
  have HT := Lib.hid (fun n W => trapped_any n W)
  have ka : 0 ≤ x.r a ∧ x.r a < 4294967296 := hv.r a
  have kb : 0 ≤ x.r b ∧ x.r b < 4294967296 := hv.r b
  have kp : 0 ≤ x.pl ∧ x.pl < 4294967296 := hv.p
  have hvl := hv.lt
  obtain ⟨X, hX⟩ : ∃ X, (putP x ((((x.pl + 4) % 4294967296) + 4 * m) % 4294967296)) = X := ⟨_, rfl⟩
  rw [hX]
  have HX := Lib.hid hX
  clear hX
  clear hv hm ht hf
  go_enter Try.func34, Try.ntmps34
  go_wp2
  refine scope_step rfl w v p F w.heap.size (0, 0) X st _ _ ?_
  go_wp2_with (first
    | (go_at_call 74; refine HFe.out.mono ?_; rintro e w1 ⟨rfl, hM, hT, hT2, hF⟩; have c0 := hM.hv.reg ha; have c1 := hM.hv.reg hb; have cp := hM.hv.place; have cw := hM.hv.waits; have cf := hM.hv.frozen; have hv2 : v < w1.heap.size := hM.hv.lt; have e0 : w1.cell? ⟨w.heap.size, 0, none⟩ = some (.int .i64 0) := hM.hb.cell 0; have e1 : w1.cell? ⟨w.heap.size, 1, none⟩ = some (.int .i64 0) := hM.hb.cell 1; have ef := hM.hb.frozen; have el : w.heap.size < w1.heap.size := hM.hb.lt; have HM := Lib.hid hM; have HTb := Lib.hid (And.intro hT hT2); have HF := Lib.hid hF; clear hM hT hT2 hF HFe)
    | fail)
  go_quiet (fail)
  go_wp2_with fail
  refine wp_goto ?_
  have M := fun q => HM.out.fr (((Fr.refl [] w1).alloc (.cells #[.int .i64 24, .int .i64 (a : Int), .int .i64 (b : Int), .int .i64 m] 53)).drewN q)
  have hB := fun q => (show Blk ((w1.alloc (.cells #[.int .i64 24, .int .i64 (a : Int), .int .i64 (b : Int), .int .i64 m] 53)).drewN q) w1.heap.size 53 _ from (Blk.new w1 53 _).drewN q)
  exact ⟨_, rfl, rfl, rfl, rfl, w1.heap.size, ((x.pl + 4) % 4294967296), _, _, _, m, x, rfl, rfl, hB _, (M _).hv, HX.out, (M _).hm, (M _).hf, (M _).hb, (M 0).he⟩
set_option maxHeartbeats 4000000 in
theorem step_25_0 (v p F bt mm cap : Nat) (x : Vm) (st : St) (A : Option Addr) (t : List Pg) (w : World) (hv : VmAt w v x) (hm : MemAt w p F st) (ht : Tb w bt (.slice A mm cap) t) (hbw : bt < w.heap.size) (a b : Nat) (m : Int) (ha : a < 16) (hb : b < 16) (hz : x.r a = 0) (hf : fetI x st t = (⟨25, a, b, m⟩, 0)) :
    Calls Try.prog 34 #[ptr v, ptr p, .slice A mm cap] w (StepQ w v p F (0, 0) (putP x ((((x.pl + 4) % 4294967296) + 4 * m) % 4294967296)) st) := by
  have HFe := Lib.hid (fetched hv hm ht hbw)
  rw [hf] at HFe
  have HT := Lib.hid (fun n W => trapped_any n W)
  have ka : 0 ≤ x.r a ∧ x.r a < 4294967296 := hv.r a
  have kb : 0 ≤ x.r b ∧ x.r b < 4294967296 := hv.r b
  have kp : 0 ≤ x.pl ∧ x.pl < 4294967296 := hv.p
  have hvl := hv.lt
  have hzb : (x.r a == 0) = true := by simpa using hz
  have hzc : (x.r a != 0) = false := by simp [hz]
  clear hz
  obtain ⟨X, hX⟩ : ∃ X, (putP x ((((x.pl + 4) % 4294967296) + 4 * m) % 4294967296)) = X := ⟨_, rfl⟩
  rw [hX]
  have HX := Lib.hid hX
  clear hX
  clear hv hm ht hf
  go_enter Try.func34, Try.ntmps34
  go_wp2
  refine scope_step rfl w v p F w.heap.size (0, 0) X st _ _ ?_
  go_wp2_with (first
    | (go_at_call 74; refine HFe.out.mono ?_; rintro e w1 ⟨rfl, hM, hT, hT2, hF⟩; have c0 := hM.hv.reg ha; have c1 := hM.hv.reg hb; have cp := hM.hv.place; have cw := hM.hv.waits; have cf := hM.hv.frozen; have hv2 : v < w1.heap.size := hM.hv.lt; have e0 : w1.cell? ⟨w.heap.size, 0, none⟩ = some (.int .i64 0) := hM.hb.cell 0; have e1 : w1.cell? ⟨w.heap.size, 1, none⟩ = some (.int .i64 0) := hM.hb.cell 1; have ef := hM.hb.frozen; have el : w.heap.size < w1.heap.size := hM.hb.lt; have HM := Lib.hid hM; have HTb := Lib.hid (And.intro hT hT2); have HF := Lib.hid hF; clear hM hT hT2 hF HFe)
    | fail)
  go_quiet (fail)
  go_wp2_with fail
  refine wp_goto ?_
  have M := fun q => HM.out.fr (((Fr.refl [] w1).alloc (.cells #[.int .i64 25, .int .i64 (a : Int), .int .i64 (b : Int), .int .i64 m] 53)).drewN q)
  have hB := fun q => (show Blk ((w1.alloc (.cells #[.int .i64 25, .int .i64 (a : Int), .int .i64 (b : Int), .int .i64 m] 53)).drewN q) w1.heap.size 53 _ from (Blk.new w1 53 _).drewN q)
  exact ⟨_, rfl, rfl, rfl, rfl, w1.heap.size, ((x.pl + 4) % 4294967296), _, _, _, m, x, rfl, rfl, hB _, (M _).hv, HX.out, (M _).hm, (M _).hf, (M _).hb, (M 0).he⟩
set_option maxHeartbeats 4000000 in
theorem step_25_1 (v p F bt mm cap : Nat) (x : Vm) (st : St) (A : Option Addr) (t : List Pg) (w : World) (hv : VmAt w v x) (hm : MemAt w p F st) (ht : Tb w bt (.slice A mm cap) t) (hbw : bt < w.heap.size) (a b : Nat) (m : Int) (ha : a < 16) (hb : b < 16) (hz : x.r a ≠ 0) (hf : fetI x st t = (⟨25, a, b, m⟩, 0)) :
    Calls Try.prog 34 #[ptr v, ptr p, .slice A mm cap] w (StepQ w v p F (0, 0) (putP x ((x.pl + 4) % 4294967296)) st) := by
  have HFe := Lib.hid (fetched hv hm ht hbw)
  rw [hf] at HFe
  have HT := Lib.hid (fun n W => trapped_any n W)
  have ka : 0 ≤ x.r a ∧ x.r a < 4294967296 := hv.r a
  have kb : 0 ≤ x.r b ∧ x.r b < 4294967296 := hv.r b
  have kp : 0 ≤ x.pl ∧ x.pl < 4294967296 := hv.p
  have hvl := hv.lt
  have hzb : (x.r a == 0) = false := by simpa using hz
  have hzc : (x.r a != 0) = true := by simp [hz]
  clear hz
  obtain ⟨X, hX⟩ : ∃ X, (putP x ((x.pl + 4) % 4294967296)) = X := ⟨_, rfl⟩
  rw [hX]
  have HX := Lib.hid hX
  clear hX
  clear hv hm ht hf
  go_enter Try.func34, Try.ntmps34
  go_wp2
  refine scope_step rfl w v p F w.heap.size (0, 0) X st _ _ ?_
  go_wp2_with (first
    | (go_at_call 74; refine HFe.out.mono ?_; rintro e w1 ⟨rfl, hM, hT, hT2, hF⟩; have c0 := hM.hv.reg ha; have c1 := hM.hv.reg hb; have cp := hM.hv.place; have cw := hM.hv.waits; have cf := hM.hv.frozen; have hv2 : v < w1.heap.size := hM.hv.lt; have e0 : w1.cell? ⟨w.heap.size, 0, none⟩ = some (.int .i64 0) := hM.hb.cell 0; have e1 : w1.cell? ⟨w.heap.size, 1, none⟩ = some (.int .i64 0) := hM.hb.cell 1; have ef := hM.hb.frozen; have el : w.heap.size < w1.heap.size := hM.hb.lt; have HM := Lib.hid hM; have HTb := Lib.hid (And.intro hT hT2); have HF := Lib.hid hF; clear hM hT hT2 hF HFe)
    | fail)
  go_quiet (fail)
  go_wp2_with fail
  have hnx : u32b ((x.pl + 4) % 4294967296) := by unfold u32b; omega
  refine wp_goto ?_
  have M := fun q => HM.out.fr (((Fr.refl [] w1).alloc (.cells #[.int .i64 25, .int .i64 (a : Int), .int .i64 (b : Int), .int .i64 m] 53)).drewN q)
  exact ⟨_, rfl, rfl, rfl, rfl, ((x.pl + 4) % 4294967296), x, rfl, hnx, (M _).hv, HX.out, (M _).hm, (M _).hf, (M _).hb, (M 0).he⟩
set_option maxHeartbeats 4000000 in
theorem step_26_0 (v p F bt mm cap : Nat) (x : Vm) (st : St) (A : Option Addr) (t : List Pg) (w : World) (hv : VmAt w v x) (hm : MemAt w p F st) (ht : Tb w bt (.slice A mm cap) t) (hbw : bt < w.heap.size) (a b : Nat) (m : Int) (ha : a < 16) (hb : b < 16) (hz : x.r a = 0) (hf : fetI x st t = (⟨26, a, b, m⟩, 0)) :
    Calls Try.prog 34 #[ptr v, ptr p, .slice A mm cap] w (StepQ w v p F (0, 0) (putP x ((x.pl + 4) % 4294967296)) st) := by
  have HFe := Lib.hid (fetched hv hm ht hbw)
  rw [hf] at HFe
  have HT := Lib.hid (fun n W => trapped_any n W)
  have ka : 0 ≤ x.r a ∧ x.r a < 4294967296 := hv.r a
  have kb : 0 ≤ x.r b ∧ x.r b < 4294967296 := hv.r b
  have kp : 0 ≤ x.pl ∧ x.pl < 4294967296 := hv.p
  have hvl := hv.lt
  have hzb : (x.r a == 0) = true := by simpa using hz
  have hzc : (x.r a != 0) = false := by simp [hz]
  clear hz
  obtain ⟨X, hX⟩ : ∃ X, (putP x ((x.pl + 4) % 4294967296)) = X := ⟨_, rfl⟩
  rw [hX]
  have HX := Lib.hid hX
  clear hX
  clear hv hm ht hf
  go_enter Try.func34, Try.ntmps34
  go_wp2
  refine scope_step rfl w v p F w.heap.size (0, 0) X st _ _ ?_
  go_wp2_with (first
    | (go_at_call 74; refine HFe.out.mono ?_; rintro e w1 ⟨rfl, hM, hT, hT2, hF⟩; have c0 := hM.hv.reg ha; have c1 := hM.hv.reg hb; have cp := hM.hv.place; have cw := hM.hv.waits; have cf := hM.hv.frozen; have hv2 : v < w1.heap.size := hM.hv.lt; have e0 : w1.cell? ⟨w.heap.size, 0, none⟩ = some (.int .i64 0) := hM.hb.cell 0; have e1 : w1.cell? ⟨w.heap.size, 1, none⟩ = some (.int .i64 0) := hM.hb.cell 1; have ef := hM.hb.frozen; have el : w.heap.size < w1.heap.size := hM.hb.lt; have HM := Lib.hid hM; have HTb := Lib.hid (And.intro hT hT2); have HF := Lib.hid hF; clear hM hT hT2 hF HFe)
    | fail)
  go_quiet (fail)
  go_wp2_with fail
  have hnx : u32b ((x.pl + 4) % 4294967296) := by unfold u32b; omega
  refine wp_goto ?_
  have M := fun q => HM.out.fr (((Fr.refl [] w1).alloc (.cells #[.int .i64 26, .int .i64 (a : Int), .int .i64 (b : Int), .int .i64 m] 53)).drewN q)
  exact ⟨_, rfl, rfl, rfl, rfl, ((x.pl + 4) % 4294967296), x, rfl, hnx, (M _).hv, HX.out, (M _).hm, (M _).hf, (M _).hb, (M 0).he⟩
set_option maxHeartbeats 4000000 in
theorem step_26_1 (v p F bt mm cap : Nat) (x : Vm) (st : St) (A : Option Addr) (t : List Pg) (w : World) (hv : VmAt w v x) (hm : MemAt w p F st) (ht : Tb w bt (.slice A mm cap) t) (hbw : bt < w.heap.size) (a b : Nat) (m : Int) (ha : a < 16) (hb : b < 16) (hz : x.r a ≠ 0) (hf : fetI x st t = (⟨26, a, b, m⟩, 0)) :
    Calls Try.prog 34 #[ptr v, ptr p, .slice A mm cap] w (StepQ w v p F (0, 0) (putP x ((((x.pl + 4) % 4294967296) + 4 * m) % 4294967296)) st) := by
  have HFe := Lib.hid (fetched hv hm ht hbw)
  rw [hf] at HFe
  have HT := Lib.hid (fun n W => trapped_any n W)
  have ka : 0 ≤ x.r a ∧ x.r a < 4294967296 := hv.r a
  have kb : 0 ≤ x.r b ∧ x.r b < 4294967296 := hv.r b
  have kp : 0 ≤ x.pl ∧ x.pl < 4294967296 := hv.p
  have hvl := hv.lt
  have hzb : (x.r a == 0) = false := by simpa using hz
  have hzc : (x.r a != 0) = true := by simp [hz]
  clear hz
  obtain ⟨X, hX⟩ : ∃ X, (putP x ((((x.pl + 4) % 4294967296) + 4 * m) % 4294967296)) = X := ⟨_, rfl⟩
  rw [hX]
  have HX := Lib.hid hX
  clear hX
  clear hv hm ht hf
  go_enter Try.func34, Try.ntmps34
  go_wp2
  refine scope_step rfl w v p F w.heap.size (0, 0) X st _ _ ?_
  go_wp2_with (first
    | (go_at_call 74; refine HFe.out.mono ?_; rintro e w1 ⟨rfl, hM, hT, hT2, hF⟩; have c0 := hM.hv.reg ha; have c1 := hM.hv.reg hb; have cp := hM.hv.place; have cw := hM.hv.waits; have cf := hM.hv.frozen; have hv2 : v < w1.heap.size := hM.hv.lt; have e0 : w1.cell? ⟨w.heap.size, 0, none⟩ = some (.int .i64 0) := hM.hb.cell 0; have e1 : w1.cell? ⟨w.heap.size, 1, none⟩ = some (.int .i64 0) := hM.hb.cell 1; have ef := hM.hb.frozen; have el : w.heap.size < w1.heap.size := hM.hb.lt; have HM := Lib.hid hM; have HTb := Lib.hid (And.intro hT hT2); have HF := Lib.hid hF; clear hM hT hT2 hF HFe)
    | fail)
  go_quiet (fail)
  go_wp2_with fail
  refine wp_goto ?_
  have M := fun q => HM.out.fr (((Fr.refl [] w1).alloc (.cells #[.int .i64 26, .int .i64 (a : Int), .int .i64 (b : Int), .int .i64 m] 53)).drewN q)
  have hB := fun q => (show Blk ((w1.alloc (.cells #[.int .i64 26, .int .i64 (a : Int), .int .i64 (b : Int), .int .i64 m] 53)).drewN q) w1.heap.size 53 _ from (Blk.new w1 53 _).drewN q)
  exact ⟨_, rfl, rfl, rfl, rfl, w1.heap.size, ((x.pl + 4) % 4294967296), _, _, _, m, x, rfl, rfl, hB _, (M _).hv, HX.out, (M _).hm, (M _).hf, (M _).hb, (M 0).he⟩
set_option maxHeartbeats 4000000 in
theorem step_27 (v p F bt mm cap : Nat) (x : Vm) (st : St) (A : Option Addr) (t : List Pg) (w : World) (hv : VmAt w v x) (hm : MemAt w p F st) (ht : Tb w bt (.slice A mm cap) t) (hbw : bt < w.heap.size) (a b : Nat) (m : Int) (ha : a < 16) (hb : b < 16) (hf : fetI x st t = (⟨27, a, b, m⟩, 0)) :
    Calls Try.prog 34 #[ptr v, ptr p, .slice A mm cap] w (StepQ w v p F (0, 0) (putP x (x.r a)) st) := by
  have HFe := Lib.hid (fetched hv hm ht hbw)
  rw [hf] at HFe
  have HT := Lib.hid (fun n W => trapped_any n W)
  have ka : 0 ≤ x.r a ∧ x.r a < 4294967296 := hv.r a
  have kb : 0 ≤ x.r b ∧ x.r b < 4294967296 := hv.r b
  have kp : 0 ≤ x.pl ∧ x.pl < 4294967296 := hv.p
  have hvl := hv.lt
  obtain ⟨X, hX⟩ : ∃ X, (putP x (x.r a)) = X := ⟨_, rfl⟩
  rw [hX]
  have HX := Lib.hid hX
  clear hX
  clear hv hm ht hf
  go_enter Try.func34, Try.ntmps34
  go_wp2
  refine scope_step rfl w v p F w.heap.size (0, 0) X st _ _ ?_
  go_wp2_with (first
    | (go_at_call 74; refine HFe.out.mono ?_; rintro e w1 ⟨rfl, hM, hT, hT2, hF⟩; have c0 := hM.hv.reg ha; have c1 := hM.hv.reg hb; have cp := hM.hv.place; have cw := hM.hv.waits; have cf := hM.hv.frozen; have hv2 : v < w1.heap.size := hM.hv.lt; have e0 : w1.cell? ⟨w.heap.size, 0, none⟩ = some (.int .i64 0) := hM.hb.cell 0; have e1 : w1.cell? ⟨w.heap.size, 1, none⟩ = some (.int .i64 0) := hM.hb.cell 1; have ef := hM.hb.frozen; have el : w.heap.size < w1.heap.size := hM.hb.lt; have HM := Lib.hid hM; have HTb := Lib.hid (And.intro hT hT2); have HF := Lib.hid hF; clear hM hT hT2 hF HFe)
    | fail)
  go_quiet (fail)
  go_wp2_with fail
  refine wp_goto ?_
  have M := fun q => HM.out.fr (((Fr.refl [] w1).alloc (.cells #[.int .i64 27, .int .i64 (a : Int), .int .i64 (b : Int), .int .i64 m] 53)).drewN q)
  exact ⟨_, rfl, rfl, rfl, rfl, x.r a, x, rfl, ka, (M _).hv, HX.out, (M _).hm, (M _).hf, (M _).hb, (M 0).he⟩
set_option maxHeartbeats 4000000 in
theorem step_28 (v p F bt mm cap : Nat) (x : Vm) (st : St) (A : Option Addr) (t : List Pg) (w : World) (hv : VmAt w v x) (hm : MemAt w p F st) (ht : Tb w bt (.slice A mm cap) t) (hbw : bt < w.heap.size) (a b : Nat) (m : Int) (ha : a < 16) (hb : b < 16) (hf : fetI x st t = (⟨28, a, b, m⟩, 0)) :
    Calls Try.prog 34 #[ptr v, ptr p, .slice A mm cap] w (StepQ w v p F (0, 0) (putP (putR x a ((x.pl + 4) % 4294967296)) ((((x.pl + 4) % 4294967296) + 4 * m) % 4294967296)) st) := by
  have HFe := Lib.hid (fetched hv hm ht hbw)
  rw [hf] at HFe
  have HT := Lib.hid (fun n W => trapped_any n W)
  have ka : 0 ≤ x.r a ∧ x.r a < 4294967296 := hv.r a
  have kb : 0 ≤ x.r b ∧ x.r b < 4294967296 := hv.r b
  have kp : 0 ≤ x.pl ∧ x.pl < 4294967296 := hv.p
  have hvl := hv.lt
  obtain ⟨X, hX⟩ : ∃ X, (putP (putR x a ((x.pl + 4) % 4294967296)) ((((x.pl + 4) % 4294967296) + 4 * m) % 4294967296)) = X := ⟨_, rfl⟩
  rw [hX]
  have HX := Lib.hid hX
  clear hX
  clear hv hm ht hf
  go_enter Try.func34, Try.ntmps34
  go_wp2
  refine scope_step rfl w v p F w.heap.size (0, 0) X st _ _ ?_
  go_wp2_with (first
    | (go_at_call 74; refine HFe.out.mono ?_; rintro e w1 ⟨rfl, hM, hT, hT2, hF⟩; have c0 := hM.hv.reg ha; have c1 := hM.hv.reg hb; have cp := hM.hv.place; have cw := hM.hv.waits; have cf := hM.hv.frozen; have hv2 : v < w1.heap.size := hM.hv.lt; have e0 : w1.cell? ⟨w.heap.size, 0, none⟩ = some (.int .i64 0) := hM.hb.cell 0; have e1 : w1.cell? ⟨w.heap.size, 1, none⟩ = some (.int .i64 0) := hM.hb.cell 1; have ef := hM.hb.frozen; have el : w.heap.size < w1.heap.size := hM.hb.lt; have HM := Lib.hid hM; have HTb := Lib.hid (And.intro hT hT2); have HF := Lib.hid hF; clear hM hT hT2 hF HFe)
    | fail)
  go_quiet (fail)
  go_wp2_with fail
  refine wp_goto ?_
  have M := fun q => (HM.out.fr (((Fr.refl [] w1).alloc (.cells #[.int .i64 28, .int .i64 (a : Int), .int .i64 (b : Int), .int .i64 m] 53)).drewN q)).put ha (show u32b ((x.pl + 4) % 4294967296) by unfold u32b; omega)
  have hB := fun q => (show Blk ((w1.alloc (.cells #[.int .i64 28, .int .i64 (a : Int), .int .i64 (b : Int), .int .i64 m] 53)).drewN q) w1.heap.size 53 _ from (Blk.new w1 53 _).drewN q)
  exact ⟨_, rfl, rfl, rfl, rfl, w1.heap.size, ((x.pl + 4) % 4294967296), _, _, _, m, (putR x a ((x.pl + 4) % 4294967296)), rfl, rfl, ((hB _).far (p := ⟨v, a, none⟩) (by have := hv2; simp; omega) _), (M _).hv, HX.out, (M _).hm, (M _).hf, (M _).hb, (M 0).he⟩
end Go.Proofs.Ytonongaakieciaa

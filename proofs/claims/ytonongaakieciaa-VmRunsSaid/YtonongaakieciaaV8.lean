/- The machine's step: loads and stores. -/
import Derived.Test.YtonongaakieciaaV6
namespace Go.Proofs.Ytonongaakieciaa
open Go.RowKit
set_option linter.unusedVariables false
set_option linter.unusedSimpArgs false
set_option maxRecDepth 100000
set_option maxHeartbeats 4000000 in
theorem step_20 (v p F bt mm cap : Nat) (x : Vm) (st : St) (A : Option Addr) (t : List Pg) (w : World) (hv : VmAt w v x) (hm : MemAt w p F st) (ht : Tb w bt (.slice A mm cap) t) (hbw : bt < w.heap.size) (a b : Nat) (m : Int) (ha : a < 16) (hb : b < 16) (hf : fetI x st t = (⟨20, a, b, m⟩, 0)) :
    Calls Try.prog 34 #[ptr v, ptr p, .slice A mm cap] w (StepQ w v p F (touchV 20 x st t a ((x.r b + m) % 4294967296) 1 ((x.pl + 4) % 4294967296)).1 (touchV 20 x st t a ((x.r b + m) % 4294967296) 1 ((x.pl + 4) % 4294967296)).2.1 (touchV 20 x st t a ((x.r b + m) % 4294967296) 1 ((x.pl + 4) % 4294967296)).2.2) := by
  have HFe := Lib.hid (fetched hv hm ht hbw)
  rw [hf] at HFe
  have HT := Lib.hid (fun n W => trapped_any n W)
  have ka : 0 ≤ x.r a ∧ x.r a < 4294967296 := hv.r a
  have kb : 0 ≤ x.r b ∧ x.r b < 4294967296 := hv.r b
  have kp : 0 ≤ x.pl ∧ x.pl < 4294967296 := hv.p
  have hvl := hv.lt
  have hlv : v < w.heap.size ∧ F < w.heap.size := ⟨hv.lt, hm.ltF⟩
  clear hv hm ht hf
  go_enter Try.func34, Try.ntmps34
  go_wp2
  refine scope_step rfl w v p F w.heap.size (touchV 20 x st t a ((x.r b + m) % 4294967296) 1 ((x.pl + 4) % 4294967296)).1 (touchV 20 x st t a ((x.r b + m) % 4294967296) 1 ((x.pl + 4) % 4294967296)).2.1 (touchV 20 x st t a ((x.r b + m) % 4294967296) 1 ((x.pl + 4) % 4294967296)).2.2 _ _ ?_
  go_wp2_with (first
    | (go_at_call 74; refine HFe.out.mono ?_; rintro e w1 ⟨rfl, hM, hT, hT2, hF⟩; have c0 := hM.hv.reg ha; have c1 := hM.hv.reg hb; have cp := hM.hv.place; have cw := hM.hv.waits; have cf := hM.hv.frozen; have hv2 : v < w1.heap.size := hM.hv.lt; have e0 : w1.cell? ⟨w.heap.size, 0, none⟩ = some (.int .i64 0) := hM.hb.cell 0; have e1 : w1.cell? ⟨w.heap.size, 1, none⟩ = some (.int .i64 0) := hM.hb.cell 1; have ef := hM.hb.frozen; have el : w.heap.size < w1.heap.size := hM.hb.lt; have HM := Lib.hid hM; have HTb := Lib.hid (And.intro hT hT2); have HF := Lib.hid hF; clear hM hT hT2 hF HFe)
    | fail)
  go_quiet (fail)
  go_wp2_with fail
  have hnx : u32b ((x.pl + 4) % 4294967296) := by unfold u32b; omega
  refine wp_goto ?_
  have M := fun q => HM.out.fr (((Fr.refl [] w1).alloc (.cells #[.int .i64 20, .int .i64 (a : Int), .int .i64 (b : Int), .int .i64 m] 53)).drewN q)
  have hB := fun q => (show Blk ((w1.alloc (.cells #[.int .i64 20, .int .i64 (a : Int), .int .i64 (b : Int), .int .i64 m] 53)).drewN q) w1.heap.size 53 _ from (Blk.new w1 53 _).drewN q)
  have hT5 := fun q => HTb.out.1.fr (((Fr.refl [] w1).alloc (.cells #[.int .i64 20, .int .i64 (a : Int), .int .i64 (b : Int), .int .i64 m] 53)).drewN q) (by simp)
  have hT6 := fun q => Nat.lt_of_lt_of_le HTb.out.2 ((((Fr.refl [] w1).alloc (.cells #[.int .i64 20, .int .i64 (a : Int), .int .i64 (b : Int), .int .i64 m] 53)).drewN q)).size
  have f0 := fun q => (show Fr [] w ((w1.alloc (.cells #[.int .i64 20, .int .i64 (a : Int), .int .i64 (b : Int), .int .i64 m] 53)).drewN q) from HF.out.trans (((Fr.refl [] w1).alloc (.cells #[.int .i64 20, .int .i64 (a : Int), .int .i64 (b : Int), .int .i64 m] 53)).drewN q))
  exact ⟨_, rfl, rfl, rfl, rfl, rfl, w1.heap.size, bt, mm, cap, A, 20, a, (a : Int), (b : Int), m, ((x.r b + m) % 4294967296), 1, ((x.pl + 4) % 4294967296), x, st, t, rfl, rfl, rfl, rfl, rfl, rfl, hnx, ha, by omega, by omega, ⟨hB _, (M _).hv, (M _).hm, (hT5 _), (hT6 _), f0 _, (M _).hb, (M 0).he, hlv⟩, rfl⟩
set_option maxHeartbeats 4000000 in
theorem step_21 (v p F bt mm cap : Nat) (x : Vm) (st : St) (A : Option Addr) (t : List Pg) (w : World) (hv : VmAt w v x) (hm : MemAt w p F st) (ht : Tb w bt (.slice A mm cap) t) (hbw : bt < w.heap.size) (a b : Nat) (m : Int) (ha : a < 16) (hb : b < 16) (hf : fetI x st t = (⟨21, a, b, m⟩, 0)) :
    Calls Try.prog 34 #[ptr v, ptr p, .slice A mm cap] w (StepQ w v p F (touchV 21 x st t a ((x.r b + m) % 4294967296) 4 ((x.pl + 4) % 4294967296)).1 (touchV 21 x st t a ((x.r b + m) % 4294967296) 4 ((x.pl + 4) % 4294967296)).2.1 (touchV 21 x st t a ((x.r b + m) % 4294967296) 4 ((x.pl + 4) % 4294967296)).2.2) := by
  have HFe := Lib.hid (fetched hv hm ht hbw)
  rw [hf] at HFe
  have HT := Lib.hid (fun n W => trapped_any n W)
  have ka : 0 ≤ x.r a ∧ x.r a < 4294967296 := hv.r a
  have kb : 0 ≤ x.r b ∧ x.r b < 4294967296 := hv.r b
  have kp : 0 ≤ x.pl ∧ x.pl < 4294967296 := hv.p
  have hvl := hv.lt
  have hlv : v < w.heap.size ∧ F < w.heap.size := ⟨hv.lt, hm.ltF⟩
  clear hv hm ht hf
  go_enter Try.func34, Try.ntmps34
  go_wp2
  refine scope_step rfl w v p F w.heap.size (touchV 21 x st t a ((x.r b + m) % 4294967296) 4 ((x.pl + 4) % 4294967296)).1 (touchV 21 x st t a ((x.r b + m) % 4294967296) 4 ((x.pl + 4) % 4294967296)).2.1 (touchV 21 x st t a ((x.r b + m) % 4294967296) 4 ((x.pl + 4) % 4294967296)).2.2 _ _ ?_
  go_wp2_with (first
    | (go_at_call 74; refine HFe.out.mono ?_; rintro e w1 ⟨rfl, hM, hT, hT2, hF⟩; have c0 := hM.hv.reg ha; have c1 := hM.hv.reg hb; have cp := hM.hv.place; have cw := hM.hv.waits; have cf := hM.hv.frozen; have hv2 : v < w1.heap.size := hM.hv.lt; have e0 : w1.cell? ⟨w.heap.size, 0, none⟩ = some (.int .i64 0) := hM.hb.cell 0; have e1 : w1.cell? ⟨w.heap.size, 1, none⟩ = some (.int .i64 0) := hM.hb.cell 1; have ef := hM.hb.frozen; have el : w.heap.size < w1.heap.size := hM.hb.lt; have HM := Lib.hid hM; have HTb := Lib.hid (And.intro hT hT2); have HF := Lib.hid hF; clear hM hT hT2 hF HFe)
    | fail)
  go_quiet (fail)
  go_wp2_with fail
  have hnx : u32b ((x.pl + 4) % 4294967296) := by unfold u32b; omega
  refine wp_goto ?_
  have M := fun q => HM.out.fr (((Fr.refl [] w1).alloc (.cells #[.int .i64 21, .int .i64 (a : Int), .int .i64 (b : Int), .int .i64 m] 53)).drewN q)
  have hB := fun q => (show Blk ((w1.alloc (.cells #[.int .i64 21, .int .i64 (a : Int), .int .i64 (b : Int), .int .i64 m] 53)).drewN q) w1.heap.size 53 _ from (Blk.new w1 53 _).drewN q)
  have hT5 := fun q => HTb.out.1.fr (((Fr.refl [] w1).alloc (.cells #[.int .i64 21, .int .i64 (a : Int), .int .i64 (b : Int), .int .i64 m] 53)).drewN q) (by simp)
  have hT6 := fun q => Nat.lt_of_lt_of_le HTb.out.2 ((((Fr.refl [] w1).alloc (.cells #[.int .i64 21, .int .i64 (a : Int), .int .i64 (b : Int), .int .i64 m] 53)).drewN q)).size
  have f0 := fun q => (show Fr [] w ((w1.alloc (.cells #[.int .i64 21, .int .i64 (a : Int), .int .i64 (b : Int), .int .i64 m] 53)).drewN q) from HF.out.trans (((Fr.refl [] w1).alloc (.cells #[.int .i64 21, .int .i64 (a : Int), .int .i64 (b : Int), .int .i64 m] 53)).drewN q))
  exact ⟨_, rfl, rfl, rfl, rfl, rfl, w1.heap.size, bt, mm, cap, A, 21, a, (a : Int), (b : Int), m, ((x.r b + m) % 4294967296), 4, ((x.pl + 4) % 4294967296), x, st, t, rfl, rfl, rfl, rfl, rfl, rfl, hnx, ha, by omega, by omega, ⟨hB _, (M _).hv, (M _).hm, (hT5 _), (hT6 _), f0 _, (M _).hb, (M 0).he, hlv⟩, rfl⟩
set_option maxHeartbeats 4000000 in
theorem step_22 (v p F bt mm cap : Nat) (x : Vm) (st : St) (A : Option Addr) (t : List Pg) (w : World) (hv : VmAt w v x) (hm : MemAt w p F st) (ht : Tb w bt (.slice A mm cap) t) (hbw : bt < w.heap.size) (a b : Nat) (m : Int) (ha : a < 16) (hb : b < 16) (hf : fetI x st t = (⟨22, a, b, m⟩, 0)) :
    Calls Try.prog 34 #[ptr v, ptr p, .slice A mm cap] w (StepQ w v p F (touchV 22 x st t a ((x.r b + m) % 4294967296) 1 ((x.pl + 4) % 4294967296)).1 (touchV 22 x st t a ((x.r b + m) % 4294967296) 1 ((x.pl + 4) % 4294967296)).2.1 (touchV 22 x st t a ((x.r b + m) % 4294967296) 1 ((x.pl + 4) % 4294967296)).2.2) := by
  have HFe := Lib.hid (fetched hv hm ht hbw)
  rw [hf] at HFe
  have HT := Lib.hid (fun n W => trapped_any n W)
  have ka : 0 ≤ x.r a ∧ x.r a < 4294967296 := hv.r a
  have kb : 0 ≤ x.r b ∧ x.r b < 4294967296 := hv.r b
  have kp : 0 ≤ x.pl ∧ x.pl < 4294967296 := hv.p
  have hvl := hv.lt
  have hlv : v < w.heap.size ∧ F < w.heap.size := ⟨hv.lt, hm.ltF⟩
  clear hv hm ht hf
  go_enter Try.func34, Try.ntmps34
  go_wp2
  refine scope_step rfl w v p F w.heap.size (touchV 22 x st t a ((x.r b + m) % 4294967296) 1 ((x.pl + 4) % 4294967296)).1 (touchV 22 x st t a ((x.r b + m) % 4294967296) 1 ((x.pl + 4) % 4294967296)).2.1 (touchV 22 x st t a ((x.r b + m) % 4294967296) 1 ((x.pl + 4) % 4294967296)).2.2 _ _ ?_
  go_wp2_with (first
    | (go_at_call 74; refine HFe.out.mono ?_; rintro e w1 ⟨rfl, hM, hT, hT2, hF⟩; have c0 := hM.hv.reg ha; have c1 := hM.hv.reg hb; have cp := hM.hv.place; have cw := hM.hv.waits; have cf := hM.hv.frozen; have hv2 : v < w1.heap.size := hM.hv.lt; have e0 : w1.cell? ⟨w.heap.size, 0, none⟩ = some (.int .i64 0) := hM.hb.cell 0; have e1 : w1.cell? ⟨w.heap.size, 1, none⟩ = some (.int .i64 0) := hM.hb.cell 1; have ef := hM.hb.frozen; have el : w.heap.size < w1.heap.size := hM.hb.lt; have HM := Lib.hid hM; have HTb := Lib.hid (And.intro hT hT2); have HF := Lib.hid hF; clear hM hT hT2 hF HFe)
    | fail)
  go_quiet (fail)
  go_wp2_with fail
  have hnx : u32b ((x.pl + 4) % 4294967296) := by unfold u32b; omega
  refine wp_goto ?_
  have M := fun q => HM.out.fr (((Fr.refl [] w1).alloc (.cells #[.int .i64 22, .int .i64 (a : Int), .int .i64 (b : Int), .int .i64 m] 53)).drewN q)
  have hB := fun q => (show Blk ((w1.alloc (.cells #[.int .i64 22, .int .i64 (a : Int), .int .i64 (b : Int), .int .i64 m] 53)).drewN q) w1.heap.size 53 _ from (Blk.new w1 53 _).drewN q)
  have hT5 := fun q => HTb.out.1.fr (((Fr.refl [] w1).alloc (.cells #[.int .i64 22, .int .i64 (a : Int), .int .i64 (b : Int), .int .i64 m] 53)).drewN q) (by simp)
  have hT6 := fun q => Nat.lt_of_lt_of_le HTb.out.2 ((((Fr.refl [] w1).alloc (.cells #[.int .i64 22, .int .i64 (a : Int), .int .i64 (b : Int), .int .i64 m] 53)).drewN q)).size
  have f0 := fun q => (show Fr [] w ((w1.alloc (.cells #[.int .i64 22, .int .i64 (a : Int), .int .i64 (b : Int), .int .i64 m] 53)).drewN q) from HF.out.trans (((Fr.refl [] w1).alloc (.cells #[.int .i64 22, .int .i64 (a : Int), .int .i64 (b : Int), .int .i64 m] 53)).drewN q))
  exact ⟨_, rfl, rfl, rfl, rfl, rfl, w1.heap.size, bt, mm, cap, A, 22, a, (a : Int), (b : Int), m, ((x.r b + m) % 4294967296), 1, ((x.pl + 4) % 4294967296), x, st, t, rfl, rfl, rfl, rfl, rfl, rfl, hnx, ha, by omega, by omega, ⟨hB _, (M _).hv, (M _).hm, (hT5 _), (hT6 _), f0 _, (M _).hb, (M 0).he, hlv⟩, rfl⟩
set_option maxHeartbeats 4000000 in
theorem step_23 (v p F bt mm cap : Nat) (x : Vm) (st : St) (A : Option Addr) (t : List Pg) (w : World) (hv : VmAt w v x) (hm : MemAt w p F st) (ht : Tb w bt (.slice A mm cap) t) (hbw : bt < w.heap.size) (a b : Nat) (m : Int) (ha : a < 16) (hb : b < 16) (hf : fetI x st t = (⟨23, a, b, m⟩, 0)) :
    Calls Try.prog 34 #[ptr v, ptr p, .slice A mm cap] w (StepQ w v p F (touchV 23 x st t a ((x.r b + m) % 4294967296) 4 ((x.pl + 4) % 4294967296)).1 (touchV 23 x st t a ((x.r b + m) % 4294967296) 4 ((x.pl + 4) % 4294967296)).2.1 (touchV 23 x st t a ((x.r b + m) % 4294967296) 4 ((x.pl + 4) % 4294967296)).2.2) := by
  have HFe := Lib.hid (fetched hv hm ht hbw)
  rw [hf] at HFe
  have HT := Lib.hid (fun n W => trapped_any n W)
  have ka : 0 ≤ x.r a ∧ x.r a < 4294967296 := hv.r a
  have kb : 0 ≤ x.r b ∧ x.r b < 4294967296 := hv.r b
  have kp : 0 ≤ x.pl ∧ x.pl < 4294967296 := hv.p
  have hvl := hv.lt
  have hlv : v < w.heap.size ∧ F < w.heap.size := ⟨hv.lt, hm.ltF⟩
  clear hv hm ht hf
  go_enter Try.func34, Try.ntmps34
  go_wp2
  refine scope_step rfl w v p F w.heap.size (touchV 23 x st t a ((x.r b + m) % 4294967296) 4 ((x.pl + 4) % 4294967296)).1 (touchV 23 x st t a ((x.r b + m) % 4294967296) 4 ((x.pl + 4) % 4294967296)).2.1 (touchV 23 x st t a ((x.r b + m) % 4294967296) 4 ((x.pl + 4) % 4294967296)).2.2 _ _ ?_
  go_wp2_with (first
    | (go_at_call 74; refine HFe.out.mono ?_; rintro e w1 ⟨rfl, hM, hT, hT2, hF⟩; have c0 := hM.hv.reg ha; have c1 := hM.hv.reg hb; have cp := hM.hv.place; have cw := hM.hv.waits; have cf := hM.hv.frozen; have hv2 : v < w1.heap.size := hM.hv.lt; have e0 : w1.cell? ⟨w.heap.size, 0, none⟩ = some (.int .i64 0) := hM.hb.cell 0; have e1 : w1.cell? ⟨w.heap.size, 1, none⟩ = some (.int .i64 0) := hM.hb.cell 1; have ef := hM.hb.frozen; have el : w.heap.size < w1.heap.size := hM.hb.lt; have HM := Lib.hid hM; have HTb := Lib.hid (And.intro hT hT2); have HF := Lib.hid hF; clear hM hT hT2 hF HFe)
    | fail)
  go_quiet (fail)
  go_wp2_with fail
  have hnx : u32b ((x.pl + 4) % 4294967296) := by unfold u32b; omega
  refine wp_goto ?_
  have M := fun q => HM.out.fr (((Fr.refl [] w1).alloc (.cells #[.int .i64 23, .int .i64 (a : Int), .int .i64 (b : Int), .int .i64 m] 53)).drewN q)
  have hB := fun q => (show Blk ((w1.alloc (.cells #[.int .i64 23, .int .i64 (a : Int), .int .i64 (b : Int), .int .i64 m] 53)).drewN q) w1.heap.size 53 _ from (Blk.new w1 53 _).drewN q)
  have hT5 := fun q => HTb.out.1.fr (((Fr.refl [] w1).alloc (.cells #[.int .i64 23, .int .i64 (a : Int), .int .i64 (b : Int), .int .i64 m] 53)).drewN q) (by simp)
  have hT6 := fun q => Nat.lt_of_lt_of_le HTb.out.2 ((((Fr.refl [] w1).alloc (.cells #[.int .i64 23, .int .i64 (a : Int), .int .i64 (b : Int), .int .i64 m] 53)).drewN q)).size
  have f0 := fun q => (show Fr [] w ((w1.alloc (.cells #[.int .i64 23, .int .i64 (a : Int), .int .i64 (b : Int), .int .i64 m] 53)).drewN q) from HF.out.trans (((Fr.refl [] w1).alloc (.cells #[.int .i64 23, .int .i64 (a : Int), .int .i64 (b : Int), .int .i64 m] 53)).drewN q))
  exact ⟨_, rfl, rfl, rfl, rfl, rfl, w1.heap.size, bt, mm, cap, A, 23, a, (a : Int), (b : Int), m, ((x.r b + m) % 4294967296), 4, ((x.pl + 4) % 4294967296), x, st, t, rfl, rfl, rfl, rfl, rfl, rfl, hnx, ha, by omega, by omega, ⟨hB _, (M _).hv, (M _).hm, (hT5 _), (hT6 _), f0 _, (M _).hb, (M 0).he, hlv⟩, rfl⟩
end Go.Proofs.Ytonongaakieciaa

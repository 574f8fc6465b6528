/- The calls that are fixed come to true. -/
import Derived.Test.YtblidpafeiiniaaW4
namespace Go.Proofs.Ytblidpafeiiniaa
open Go.RowKit

abbrev sA : ByteArray := ⟨#[97]⟩
abbrev sB : ByteArray := ⟨#[98]⟩
abbrev sC : ByteArray := ⟨#[99]⟩
abbrev sBCD : ByteArray := ⟨#[98, 99, 100]⟩
abbrev sX : ByteArray := ⟨#[120]⟩
def fs0 : PS := ⟨1, 0, 1, 2, 2, [], 0⟩
def fs1 : PS := ⟨1, 0, 1, 2, 2, [(sA, 0)], 0⟩
def fs2 : PS := ⟨1, 0, 1, 2, 2, [(sA, 0), (sB, 0)], 0⟩
def fs3 : PS := ⟨1, 0, 1, 2, 2, [(sA, 0), (sB, 0)], 1⟩
def fs4 : PS := ⟨1, 0, 1, 2, 2, [(sB, 0)], 0⟩
def fs5 : PS := ⟨1, 0, 1, 2, 2, [], 0⟩
def gs0 : PS := ⟨0, 0, 1, 2, 1, [], 0⟩
def gs1 : PS := ⟨0, 0, 1, 2, 1, [(sX, 3)], 0⟩

theorem f_new (w : World) : Calls Try.prog 7 #[.agg #[.int .i64 1, .int .i64 0, .int .i64 1, .int .i64 2, .int .i64 2]] w (NewOk w fs0) := new_ok 1 0 1 2 2 w (by decide)
theorem f_new2 (w : World) : Calls Try.prog 7 #[.agg #[.int .i64 0, .int .i64 0, .int .i64 1, .int .i64 2, .int .i64 1]] w (NewOk w gs0) := new_ok 0 0 1 2 1 w (by decide)
theorem f_a (p : Nat) (w : World) (h : PortAt w p fs0) : Calls Try.prog 12 #[ptr p, .string sA, .int .i64 0] w fun e w' => e = .returned (.int .i64 0) ∧ PortAt w' p fs1 ∧ Fr [p] w w' :=
  send_room p fs0 w sA 0 h (by decide) (by decide) (by decide) (by decide) rfl (by decide) (by decide)
theorem f_bcd (p : Nat) (w : World) (h : PortAt w p fs1) : Calls Try.prog 12 #[ptr p, .string sBCD, .int .i64 0] w fun e w' => e = .returned (.int .i64 141) ∧ w = w' :=
  send_long p fs1 w sBCD 0 h (by decide) (by decide) (by decide) (by decide)
theorem f_b (p : Nat) (w : World) (h : PortAt w p fs1) : Calls Try.prog 12 #[ptr p, .string sB, .int .i64 0] w fun e w' => e = .returned (.int .i64 0) ∧ PortAt w' p fs2 ∧ Fr [p] w w' :=
  send_room p fs1 w sB 0 h (by decide) (by decide) (by decide) (by decide) rfl (by decide) (by decide)
theorem f_c (p : Nat) (w : World) (h : PortAt w p fs2) : Calls Try.prog 12 #[ptr p, .string sC, .int .i64 0] w fun e w' => e = .returned (.int .i64 0) ∧ PortAt w' p fs3 ∧ Fr [p] w w' :=
  send_full p fs2 w sC 0 h (by decide) (by decide) (by decide) (by decide) rfl (by decide) (by decide) (by decide)
theorem f_len (p : Nat) (w : World) (h : PortAt w p fs3) : Calls Try.prog 11 #[ptr p] w fun e w' => e = .returned (.int .i64 2) ∧ w = w' := len_any p fs3 w h
theorem f_r1 (p : Nat) (w : World) (h : PortAt w p fs3) : Calls Try.prog 10 #[ptr p, .int .i64 0] w fun e w' => e = .returned (.tuple #[.string sA, .int .i64 1, .int .i64 0]) ∧ PortAt w' p fs4 ∧ Fr [p] w w' :=
  recv_take p fs3 w sA 0 [(sB, 0)] 0 h rfl (by decide) (by decide) rfl
theorem f_r2 (p : Nat) (w : World) (h : PortAt w p fs4) : Calls Try.prog 10 #[ptr p, .int .i64 0] w fun e w' => e = .returned (.tuple #[.string sB, .int .i64 0, .int .i64 0]) ∧ PortAt w' p fs5 ∧ Fr [p] w w' :=
  recv_take p fs4 w sB 0 [] 0 h rfl (by decide) (by decide) rfl
theorem f_r3 (p : Nat) (w : World) (h : PortAt w p fs5) : Calls Try.prog 10 #[ptr p, .int .i64 0] w fun e w' => e = .returned (.tuple #[.string ByteArray.empty, .int .i64 0, .int .i64 142]) ∧ w = w' :=
  recv_empty p fs5 w 0 h (by decide) (by decide) rfl
theorem f_x (p : Nat) (w : World) (h : PortAt w p gs0) : Calls Try.prog 12 #[ptr p, .string sX, .int .i64 3] w fun e w' => e = .returned (.int .i64 0) ∧ PortAt w' p gs1 ∧ Fr [p] w w' :=
  send_keep p gs0 w sX 3 h (by decide) (by decide) (by decide) (by decide) rfl
theorem f_rx (p : Nat) (w : World) (h : PortAt w p gs1) : Calls Try.prog 10 #[ptr p, .int .i64 5] w fun e w' => e = .returned (.tuple #[.string sX, .int .i64 2, .int .i64 0]) ∧ Fr [] w w' :=
  recv_look p gs1 w sX 3 [] 5 h rfl (by decide) (by decide) (by decide) (by decide) rfl
theorem f_lx (p : Nat) (w : World) (h : PortAt w p gs1) : Calls Try.prog 11 #[ptr p] w fun e w' => e = .returned (.int .i64 1) ∧ w = w' := len_any p gs1 w h
theorem f_check (w : World) : Calls Try.prog 15 #[.agg #[.int .i64 0, .int .i64 0, .int .i64 0, .int .i64 0, .int .i64 0]] w fun e w' => e = .returned (.int .i64 140) ∧ Fr [] w w' := check_no 0 0 0 0 0 w (by decide)

theorem Fr.stepNew {w w' w'' : World} {p : Nat} (h : Fr [] w w') (k : Fr [p] w' w'') (hp : w.heap.size ≤ p) : Fr [] w w'' :=
  h.step k (fun i hi => by simp at hi; subst hi; exact .inr hp)

set_option maxHeartbeats 1000000 in
theorem fixed_any (w : World) : Calls Try.prog 9 #[] w fun e w' => e = .returned (.bool true) ∧ Fr [] w w' := by
  go_enter Try.func9, Try.ntmps9
  go_wp2_with (first
    | (go_at_call 7; (with_reducible refine (f_new _).mono ?_); rintro e w1 ⟨p, rfl, hle, hp0, hf1⟩)
    | (go_at_call 12; (with_reducible refine (f_a p _ hp0).mono ?_); rintro e w2 ⟨rfl, hp1, hf2⟩)
    | (go_at_call 12; (with_reducible refine (f_bcd p _ hp1).mono ?_); rintro e w2' ⟨rfl, rfl⟩)
    | (go_at_call 12; (with_reducible refine (f_b p _ hp1).mono ?_); rintro e w3 ⟨rfl, hp2, hf3⟩)
    | (go_at_call 12; (with_reducible refine (f_c p _ hp2).mono ?_); rintro e w4 ⟨rfl, hp3, hf4⟩)
    | (go_at_call 11; (with_reducible refine (f_len p _ hp3).mono ?_); rintro e w5 ⟨rfl, rfl⟩)
    | (go_at_call 10; (with_reducible refine (f_r1 p _ hp3).mono ?_); rintro e w5 ⟨rfl, hp4, hf5⟩)
    | (go_at_call 10; (with_reducible refine (f_r2 p _ hp4).mono ?_); rintro e w6 ⟨rfl, hp5, hf6⟩)
    | (go_at_call 10; (with_reducible refine (f_r3 p _ hp5).mono ?_); rintro e w6' ⟨rfl, rfl⟩)
    | (go_at_call 7; (with_reducible refine (f_new2 _).mono ?_); rintro e w7 ⟨q, rfl, hqe, hq0, hf7⟩)
    | (go_at_call 12; (with_reducible refine (f_x q _ hq0).mono ?_); rintro e w8 ⟨rfl, hq1, hf8⟩)
    | (go_at_call 10; (with_reducible refine (f_rx q _ hq1).mono ?_); rintro e w9 ⟨rfl, hf9⟩; have hq2 := hq1.fr hf9 (by simp) (by simp))
    | (go_at_call 11; (with_reducible refine (f_lx q _ hq2).mono ?_); rintro e w9' ⟨rfl, rfl⟩)
    | (go_at_call 15; (with_reducible refine (f_check _).mono ?_); rintro e w10 ⟨rfl, hf10⟩))
  go_ret
  have a6 : Fr [] w w6 := Fr.stepNew (Fr.stepNew (Fr.stepNew (Fr.stepNew (Fr.stepNew hf1 hf2 hle) hf3 hle) hf4 hle) hf5 hle) hf6 hle
  have a8 : Fr [] w w8 := Fr.stepNew (a6.trans hf7) hf8 (Nat.le_trans a6.size hqe)
  exact ⟨rfl, (a8.trans hf9).trans hf10⟩
end Go.Proofs.Ytblidpafeiiniaa

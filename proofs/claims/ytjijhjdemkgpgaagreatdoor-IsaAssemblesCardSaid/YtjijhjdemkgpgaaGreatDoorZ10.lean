/- What the document's parse comes to, plain. -/
import Derived.Test.YtjijhjdemkgpgaaGreatDoorZ9
import Derived.Test.YtjijhjdemkgpgaaGreatDoorI17
import Derived.Test.YtjijhjdemkgpgaaGreatDoorI6
namespace Go.Proofs.YtjijhjdemkgpgaaGreatDoor
open Go.RowKit
set_option linter.unusedVariables false
set_option linter.unusedSimpArgs false
set_option maxRecDepth 100000
def finR (k : Nat) : Option (In × List UInt8) → In × List UInt8 × Bool
  | none => (I00, [], false)
  | some (i, lb) => if okL i k = true then (i, lb, true) else (I00, [], false)
/-- What the document's parse tells. -/
def readR (lab : Bool) (s : List UInt8) : In × List UInt8 × Bool :=
  match splitC 32 s with
  | [] => (I00, [], false)
  | w :: vs => match opU w 30 with
    | none => (I00, [], false)
    | some k => if vs.length = (fmL k).length then finR k (fieldsG rdR rmR lab k (fmL k) vs ⟨k, 0, 0, 0⟩ []) else (I00, [], false)
theorem readR_G (lab : Bool) (s : List UInt8) : readG rdR rmR lab s = if (readR lab s).2.2 = true then some ((readR lab s).1, (readR lab s).2.1) else none := by
  unfold readG readR
  cases splitC 32 s with
  | nil => rfl
  | cons w vs =>
    simp only
    rw [opU_is]
    cases opOf w with
    | none => rfl
    | some k =>
      simp only
      by_cases hl : vs.length = (fmL k).length
      · rw [if_pos hl, if_pos hl]
        cases fieldsG rdR rmR lab k (fmL k) vs ⟨k, 0, 0, 0⟩ [] with
        | none => rfl
        | some p =>
          obtain ⟨i, lb⟩ := p
          unfold finR
          simp only
          by_cases ho : okL i k = true
          · rw [if_pos ho, if_pos ho]
            rfl
          · rw [if_neg ho, if_neg ho]
            rfl
      · rw [if_neg hl, if_neg hl]
        rfl
def opJ (o : Option Nat) : Int := match o with | some k => (k : Int) | none => -1
theorem resP {tmps : Array Value} {w : World} {g : Nat} {a b : Value} {cs : Array Value} (h2 : tmps.getD 4 undef = .pointer (some ⟨g, 0, none⟩)) (h3 : tmps.getD 5 undef = a) (h4 : tmps.getD 6 undef = b) (hb : Blk w g 23 cs) (hs : cs.size = 4) : (results Tryz.f30 tmps).run Tryz.prog w = .ok (.tuple #[.agg cs, a, b]) w := by
  have h1 : (asAddr (tmps.getD 4 undef)).run Tryz.prog w = .ok ⟨g, 0, none⟩ w := by rw [h2]; rfl
  rw [results_cell_tmp_tmp Tryz.results30, h1, h3, h4]
  have h4 := run_loadVar_row (P := Tryz.prog) w g 23 23 cs (0, 0) _ hb Tryz.underlying23 rfl (by rw [hs]; kernel_rfl)
  simp [Result.andThen, h4]
/-- A word's number, as told. -/
theorem num_call (s : ByteArray) (hs : s.size ≤ 281474976710656) {o : Option Nat} (ho : numR s.data.toList = o) (w : World) : Calls Tryz.prog 41 #[.string s] w fun e w' => e = .returned (.tuple #[.int .i64 ((o.getD 0 : Nat) : Int), .bool o.isSome]) ∧ w = w' := by
  have h := rNumber_any s hs w
  rw [ho] at h
  exact h
theorem numR_lt {v : List UInt8} {n : Nat} (h : numR v = some n) : n < 10000000000 := by
  have := (numR_iff.1 h).2
  have : (10 : Nat) ^ 10 = 10000000000 := by decide
  omega
end Go.Proofs.YtjijhjdemkgpgaaGreatDoor

/- The machine: Clone. -/
import Derived.Test.YtonongaakieciaaV14
import Derived.Deep.WholeRow
namespace Go.Proofs.Ytonongaakieciaa
open Go.RowKit
set_option linter.unusedVariables false
set_option linter.unusedSimpArgs false
set_option maxRecDepth 100000
def vz : Array Value := #[.int .u32 0, .int .u32 0, .int .u32 0, .int .u32 0, .int .u32 0, .int .u32 0, .int .u32 0, .int .u32 0, .int .u32 0, .int .u32 0, .int .u32 0, .int .u32 0, .int .u32 0, .int .u32 0, .int .u32 0, .int .u32 0, .int .u32 0, .bool false]
theorem one_vc (x : Vm) : (vcells x).all (·.oneCell') = true := by simp [vcells, Value.oneCell']
theorem size134n : (Try.prog.info? 134).map (·.size) = some 18 := by kernel_rfl
theorem size134 (x : Vm) : (Try.prog.info? 134).map (·.size) = some (vcells x).size := size134n
theorem wpList_store_vm {ops : Array Oper} {rest : List Oper} {o : Oper} {a : Act} {w : World} {Q : Exit → Act → World → Prop} (hgd : o.guard = none) (p y : Operand) (ho : o.op = .store 134 p y) (hd : o.dst = none) (c c' : Array Value)
    (hp : a.eval p = .pointer (some ⟨w.heap.size, 0, none⟩)) (hy : a.eval y = .agg c') (hi : (Try.prog.info? 134).map (·.size) = some c'.size) (hc : c.size = c'.size) (h1 : c'.all (·.oneCell') = true)
    (h : wpList Try.prog ops Q rest a (w.alloc (.cells c' 134))) : wpList Try.prog ops Q (o :: rest) a (w.alloc (.cells c 134)) :=
  wpList_plain hgd fun _ hK => by
    unfold Oper.wp execOp
    simp only [ho, hp, hy, Sem.run_bind, Result.andThen_ok, run_storeAt_new (P := Try.prog) w 134 c c' hi hc h1]
    simp only [Sem.run_pure, Oper.upon]
    have e : a.put o.dst undef = a := by rw [hd]; rfl
    refine hK _ _ ?_
    rw [e]
    exact h
set_option maxHeartbeats 8000000 in
theorem vClone_any {w : World} {v : Nat} {x : Vm} (h : VmAt w v x) : Calls Try.prog 49 #[ptr v] w fun e w' => e = .returned (ptr w.heap.size) ∧ VmAt w' w.heap.size x ∧ Fr [] w w' := by
  have hrow := h.hb
  have hsz := size134 x
  have h1v := one_vc x
  have HF := Lib.hid (show VmAt (w.alloc (.cells (vcells x) 134)) w.heap.size x ∧ Fr [] w (w.alloc (.cells (vcells x) 134)) from ⟨⟨Blk.new w 134 _, h.r, h.p⟩, (Fr.refl [] w).alloc _⟩)
  have hz : (vcells x).size = 18 := rfl
  clear h
  generalize vcells x = C at *
  go_enter Try.func49, Try.ntmps49
  go_wp2_with (first
    | (refine wpList_load_row rfl 134 (.tmp 5) rfl v rfl 134 C (0, 0) _ hrow Try.underlying134 rfl hsz ?_)
    | (refine wpList_store_vm rfl (.tmp 3) (.tmp 6) rfl rfl vz C rfl rfl hsz hz.symm h1v ?_)
    | fail)
  all_goals
    go_ret
    exact ⟨rfl, HF.out⟩
end Go.Proofs.Ytonongaakieciaa

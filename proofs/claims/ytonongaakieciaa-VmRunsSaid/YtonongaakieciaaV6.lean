/- The machine's step: what is kept on the way. -/
import Derived.Test.YtonongaakieciaaV5
namespace Go.Proofs.Ytonongaakieciaa
open Go.RowKit
set_option linter.unusedVariables false
set_option linter.unusedSimpArgs false
set_option maxRecDepth 100000
def Jall (w : World) (v p F ev : Nat) (E : Int × Int) (X : Vm) (S : St) (l : Nat) (a : Act) (W : World) : Prop :=
  match l with
  | 0 => JD w v p F ev E X S a W
  | 1 => JT w v p F ev E X S a W
  | 2 => JJ w v p F ev E X S a W
  | _ => False
theorem scope_step {r c : Code} (hc : Try.f34.body = some (.seq r (.scope c))) (w : World) (v p F ev : Nat) (E : Int × Int) (X : Vm) (S : St) (a : Act) (W : World)
    (first : c.wp Try.prog (jumps (Jall w v p F ev E X S) (bodyPost Try.prog Try.f34 (StepQ w v p F E X S))) a W) : (Code.scope c).wp Try.prog (bodyPost Try.prog Try.f34 (StepQ w v p F E X S)) a W := by
  refine wp_scope_labels (Jall w v p F ev E X S) (fun l => if l = 0 then 0 else 1) ?_ first
  intro l a' W' h
  match l, h with
  | 0, h => exact pass_done r c hc _ w v p F ev E X S a' W' h
  | 1, h => exact pass_touch r c hc _ w v p F ev E X S a' W' h (fun a2 W2 h2 => ⟨h2, by decide⟩)
  | 2, h => exact pass_jump r c hc _ w v p F ev E X S a' W' h
/-- What is kept on the way. -/
structure Mid (w : World) (v p F ev : Nat) (x : Vm) (st : St) (W : World) : Prop where
  hv : VmAt W v x
  hm : MemAt W p F st
  hf : Fr [v, F] w W
  hb : Blk W ev 65 #[.int .i64 0, .int .i64 0]
  he : w.heap.size ≤ ev
section
variable {w W W' : World} {v p F ev : Nat} {x : Vm} {st : St}
theorem Mid.fr (h : Mid w v p F ev x st W) (hf : Fr [] W W') : Mid w v p F ev x st W' := ⟨h.hv.fr hf (by simp), h.hm.to hf (by simp) (by simp), h.hf.trans (hf.mono (by simp)), h.hb.fr hf (by simp), h.he⟩
theorem Mid.ne (h : Mid w v p F ev x st W) : p ≠ v ∧ F ≠ v ∧ v ≠ ev ∧ p ≠ ev ∧ F ≠ ev :=
  ⟨(h.hm.ne_vm h.hv).1, (h.hm.ne_vm h.hv).2, Blk.ne_ h.hv.hb h.hb (by decide), (h.hm.ne_ev h.hb (by decide) (by decide)).1, (h.hm.ne_ev h.hb (by decide) (by decide)).2⟩
theorem Mid.put (h : Mid w v p F ev x st W) {k : Nat} (hk : k < 16) {n : Int} (hn : u32b n) : Mid w v p F ev (putR x k n) st (W.setCell ⟨v, k, none⟩ (.int .u32 n)) := by
  obtain ⟨n1, n2, n3, n4, n5⟩ := h.ne
  have f1 := (Fr.refl [v] W).setCell (p := ⟨v, k, none⟩) (.inl (by simp)) (.int .u32 n)
  exact ⟨h.hv.setR hk hn, h.hm.to f1 (by simp; omega) (by simp; omega), h.hf.trans (f1.mono (by simp)), h.hb.fr f1 (by simp; omega), h.he⟩
theorem Mid.wait (h : Mid w v p F ev x st W) (b : Bool) : Mid w v p F ev (putW x b) st (W.setCell ⟨v, 17, none⟩ (.bool b)) := by
  obtain ⟨n1, n2, n3, n4, n5⟩ := h.ne
  have f1 := (Fr.refl [v] W).setCell (p := ⟨v, 17, none⟩) (.inl (by simp)) (.bool b)
  exact ⟨h.hv.setW b, h.hm.to f1 (by simp; omega) (by simp; omega), h.hf.trans (f1.mono (by simp)), h.hb.fr f1 (by simp; omega), h.he⟩
theorem Mid.end_ (h : Mid w v p F ev x st W) (c n : Int) :
    Blk ((W.setCell ⟨ev, 0, none⟩ (.int .i64 c)).setCell ⟨ev, 1, none⟩ (.int .i64 n)) ev 65 #[.int .i64 c, .int .i64 n] ∧ StepQ w v p F (c, n) x st (.returned (.agg #[.int .i64 c, .int .i64 n])) ((W.setCell ⟨ev, 0, none⟩ (.int .i64 c)).setCell ⟨ev, 1, none⟩ (.int .i64 n)) := by
  obtain ⟨n1, n2, n5, n3, n4⟩ := h.ne
  have f1 := (Fr.refl [ev] W).setCell (p := ⟨ev, 0, none⟩) (.inl (by simp)) (.int .i64 c)
  have f2 := f1.setCell (p := ⟨ev, 1, none⟩) (.inl (by simp)) (.int .i64 n)
  exact ⟨(h.hb.set_ 0 _).set_ 1 _, rfl, h.hv.fr f2 (by simp; omega), h.hm.to f2 (by simp; omega) (by simp; omega), (h.hf.setCell (p := ⟨ev, 0, none⟩) (.inr h.he) _).setCell (p := ⟨ev, 1, none⟩) (.inr h.he) _⟩
end
theorem fetched {w : World} {v p F bt mm cap : Nat} {x : Vm} {st : St} {A : Option Addr} {t : List Pg} (hv : VmAt w v x) (hm : MemAt w p F st) (ht : Tb w bt (.slice A mm cap) t) (hbw : bt < w.heap.size) :
    Calls Try.prog 74 #[ptr v, ptr p, .slice A mm cap] (w.alloc (.cells #[.int .i64 0, .int .i64 0] 65)) fun e w' => e = .returned (.tuple #[(fetI x st t).1.v, .int .i64 (fetI x st t).2]) ∧ Mid w v p F w.heap.size x st w' ∧ Tb w' bt (.slice A mm cap) t ∧ bt < w'.heap.size ∧ Fr [] w w' := by
  have f0 := (Fr.refl [] w).alloc (.cells #[.int .i64 0, .int .i64 0] 65)
  refine (fetch_any v p F bt mm cap x st A t _ (hv.fr f0 (by simp)) (hm.to f0 (by simp) (by simp)) (ht.fr f0 (by simp)) (by simp; omega)).mono fun e w' ⟨he, hf⟩ => ?_
  have f1 := f0.trans hf
  exact ⟨he, ⟨hv.fr f1 (by simp), hm.to f1 (by simp) (by simp), f1.mono (by simp), (Blk.new w 65 _).fr hf (by simp), Nat.le_refl _⟩, ht.fr f1 (by simp), by have := f1.size; omega, f1⟩
end Go.Proofs.Ytonongaakieciaa

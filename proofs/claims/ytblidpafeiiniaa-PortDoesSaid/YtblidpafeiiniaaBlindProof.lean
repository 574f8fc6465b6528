/-
PortBlind: two ports of one configuration are told the same by Send, message by message and tick by tick, whatever is received from, or cleared of, the second one between. For every input: no condition.
-/
import Derived.Test.YtblidpafeiiniaaBlind
import Derived.Test.YtblidpafeiiniaaOps
import Derived.WalkKit
import Derived.ProofKit
import Derived.OpenShut
import Derived.ShutString
import Derived.ChangeOld
import Derived.Below
import Derived.SizedLaws
namespace Go.Proofs.Ytblidpafeiiniaa
open Go.ChangeShapes Go.WideShapes Go.ChangeAt Go.RowKit Go.Joins

theorem Try.own : ownKnob Try.prog.godebug = none := by kernel_rfl
theorem Try.laidOut : laidOutB Try.prog = true := by kernel_rfl
theorem Try.cells23 : Try.prog.cellsOf 23 = 5 := by kernel_rfl

theorem blind_walk (K F T S D : Int) (A B : Option Addr) (n cap m capB : Nat) (ops bops : Nat → OpD) (w : World) (hs : OpsIn w (.slice A n cap) n ops) (hb : OpsIn w (.slice B m capB) m bops) (hn : n ≤ 4611686018427387904) :
    Calls Try.prog 4 #[cfg K F T S D, .slice A n cap, .slice B m capB] w fun e w' => e = .returned (.bool true) ∧ Below w.heap.size w w' := by
  cases hok : okC K F T S D with
  | false => exact (blind_no K F T S D _ _ w hok).mono fun e w' ⟨he, hf⟩ => ⟨he, hf.below (Nat.le_refl _) (by simp)⟩
  | true => exact (blind_ok K F T S D A B n cap m capB ops bops w hok hs hb hn).mono fun e w' ⟨he, hf⟩ => ⟨he, hf.below (Nat.le_refl _) (by simp)⟩

set_option maxRecDepth 100000 in
theorem blind_lifted (os : Os) (started : os.Started) (H : Type) (enc : TypeId × Value → H) :
    ReturnsInHanded {} Try.checked os 4 .any (Rows.portBlindSpec.pre6 enc Try.prog Try.f4 Rows.portBlindRow.domain false) (Rows.portBlindSpec.post enc Try.prog Try.f4 false true false false) := by
  refine returnsInHanded_of_change_sized (C := Try.checked) Try.own started (by kernel_rfl) Try.func4
    (ChangeSpec.witness6 (enc := enc) (C := Try.checked) false ⟨#[], #[.agg #[.int .i64 0, .int .i64 0, .int .i64 0, .int .i64 0, .int .i64 0], .slice none 0 0, .slice none 0 0], []⟩ 8 (by kernel_rfl) (by kernel_rfl) (by kernel_rfl) (by kernel_rfl)) ?_
  intro W base args ds gs before hval0 hW hcnd hsz0 _
  have hval : ∀ (j : Nat) t v, Try.f4.params[j]? = some t → args[j]? = some v → Value.okWide Try.prog W .any base t v := hval0
  have hsz : (DataW.weightsEach Try.prog (Try.f4.params.toList ++ Rows.portBlindSpec.plain.varTypes Try.prog) (ds ++ gs)).all (· ≤ reachBytes) = true := hsz0
  have hW' := hW
  obtain ⟨p, q, hA0, hV, rfl, hfz, hnd⟩ := hW
  have hA : DataW.TrodAll enc Try.prog W 0 (fun _ => true) true Try.f4.params.toList args.toList ds p := hA0
  rw [Try.params4] at hA hval hsz
  obtain ⟨v0, vs0, d0, ds0, p0, q0, hargs, rfl, rfl, h0, r0⟩ := trodAll_cons hA
  obtain ⟨v1, vs1, d1, ds1, p1, q1, rfl, rfl, rfl, h1, r1⟩ := trodAll_cons r0
  obtain ⟨v2, vs2, d2, ds2, p2, q2, rfl, rfl, rfl, h2, r2⟩ := trodAll_cons r1
  obtain ⟨rfl, rfl, rfl⟩ := trodAll_nil r2
  obtain rfl : args = #[v0, v1, v2] := by cases args; simp_all
  obtain ⟨rfl, rfl⟩ := trodVars_none hV
  have k0 := h0
  have k1 := h1
  have k2 := h2
  have lt0 : ∀ x ∈ p0, x.block < W.heap.size := by obtain ⟨m, hm⟩ := k0; exact DataW.trod_lt m _ _ _ hm
  have lt1 : ∀ x ∈ p1, x.block < W.heap.size := by obtain ⟨m, hm⟩ := k1; exact DataW.trod_lt m _ _ _ hm
  have lt2 : ∀ x ∈ p2, x.block < W.heap.size := by obtain ⟨m, hm⟩ := k2; exact DataW.trod_lt m _ _ _ hm
  obtain ⟨a0, a1, a2, a3, a4, y0, y1, y2, y3, y4, m, rfl, -, -, t0, t1, t2, t3, t4⟩ := open_agg5 Try.underlying23 (by kernel_rfl) Try.cells23 (hval 0 23 v0 rfl rfl) h0
  obtain ⟨K, e0, _⟩ := DataW.trod_int Try.underlying3 t0
  obtain ⟨F, e1, _⟩ := DataW.trod_int Try.underlying3 t1
  obtain ⟨T, e2, _⟩ := DataW.trod_int Try.underlying3 t2
  obtain ⟨S, e3, _⟩ := DataW.trod_int Try.underlying3 t3
  obtain ⟨D, e4, _⟩ := DataW.trod_int Try.underlying3 t4
  simp only [List.cons.injEq, and_true] at e0 e1 e2 e3 e4
  subst e0; subst e1; subst e2; subst e3; subst e4
  obtain ⟨A, n, cap, ops, rfl, hops, hd1⟩ := open_ops (hval 1 24 v1 rfl rfl) h1
  obtain ⟨B, nb, capB, bops, rfl, hbops, hd2⟩ := open_ops (hval 2 24 v2 rfl rfl) h2
  have hn : n ≤ 4611686018427387904 := by
    rcases hd1 with ⟨_, h⟩ | ⟨es, sp, rfl, hl⟩
    · omega
    · have := sized_slice hsz (j := 1) (t := 24) (e := 33) rfl rfl Try.underlying24
      rw [Try.bytes33] at this
      simp only [reachBytes] at this
      omega
  clear hA0 hval0
  refine (blind_walk K F T S D A B n cap nb capB ops bops W hops hbops hn).mono fun e W' ⟨he, bel⟩ => ?_
  subst he
  exact ⟨_, rfl, _, _, _, [], _, [], hW', trodAll_mk1 (shut_bool Try.underlying4 _), (trodAll_cons_mk (Below.trod Try.laidOut (by kernel_rfl) (of_decide_eq_true (by kernel_rfl)) k0 bel lt0) (trodAll_cons_mk (Below.trod Try.laidOut (by kernel_rfl) (of_decide_eq_true (by kernel_rfl)) k1 bel lt1) (trodAll_cons_mk (Below.trod Try.laidOut (by kernel_rfl) (of_decide_eq_true (by kernel_rfl)) k2 bel lt2) trodAll_mk0))), rfl, bel.frame _, fun h => by cases h⟩

theorem portBlind_holds : Rows.PortBlindSaid :=
  OpenClaim.holds_of_wide 4 Try.f4 rfl rfl rfl rfl rfl rfl rfl ⟨rfl, rfl, rfl, rfl, rfl⟩ rfl rfl rfl rfl rfl (by kernel_rfl) Try.func4 (by kernel_rfl)
    (of_decide_eq_true (by kernel_rfl)) (by unfold Func.isWrapper; first | (rw [if_pos (by decide +kernel)]; kernel_rfl) | (rw [if_neg (by decide +kernel)]; exact ⟨rfl, rfl⟩))
    (fun os started H enc _ => blind_lifted os started H enc)
#print axioms portBlind_holds
end Go.Proofs.Ytblidpafeiiniaa

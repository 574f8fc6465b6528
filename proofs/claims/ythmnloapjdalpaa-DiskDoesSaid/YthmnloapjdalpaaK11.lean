/- The reference's disk: Waiting; Same. -/
import Derived.Test.YthmnloapjdalpaaK4
namespace Go.Proofs.Ythmnloapjdalpaa
open Go.RowKit
set_option linter.unusedVariables false
set_option linter.unusedSimpArgs false
/-- The unsafe sectors ahead of i. -/
def wtT (d : Dk) (i : Nat) : List Int := ((List.range i).filter fun k => (d.u k).isSome).map fun (k : Nat) => (k : Int)
theorem wtT_len (d : Dk) (i : Nat) : (wtT d i).length ≤ i := by
  unfold wtT
  rw [List.length_map]
  exact Nat.le_trans (List.length_filter_le _ _) (by rw [List.length_range]; exact Nat.le_refl _)
theorem wtT_some {d : Dk} {i : Nat} (h : (d.u i).isSome = true) : wtT d (i + 1) = wtT d i ++ [(i : Int)] := by
  unfold wtT
  rw [List.range_succ, List.filter_append, List.map_append]
  simp [h]
theorem wtT_none {d : Dk} {i : Nat} (h : (d.u i).isSome = false) : wtT d (i + 1) = wtT d i := by
  unfold wtT
  rw [List.range_succ, List.filter_append, List.map_append]
  simp [h]
set_option maxRecDepth 100000 in
theorem rWaiting_any (q : Nat) (d : Dk) (w : World) (h : RD w q d) : Calls Try.prog 99 #[ptr q] w fun e w' => ∃ A cap, e = .returned (.slice A d.waiting.length cap) ∧ Zs w' (.slice A d.waiting.length cap) d.waiting ∧ Fr [] w w' := by
  obtain ⟨A0, cap0, cv, L, hb, hl, ha, hc, hA⟩ := h.form
  obtain ⟨i0, hi0, hz0, hz1, hz2⟩ := info3 Try.info3
  have hn1 := h.ok.n1
  have hn2 := h.ok.n2
  obtain ⟨N, hN⟩ : ∃ N, d.n = N := ⟨_, rfl⟩
  have HW : Hid (wtT d N = d.waiting) := Lib.hid (by rw [← hN]; rfl)
  rw [← HW.out]
  have HC := Lib.hid (fun W (hf : Fr [] w W) => (show W.cell? ⟨q, 0, none⟩ = some (.slice (some A0) N cap0) from by rw [← hN]; exact hf.cell_some (hb.cell 0) (by simp)))
  have HG := Lib.hid (fun i (hi : i < N) => ha.get (i := i) (by rw [hN]; exact hi))
  have HL := Lib.hid (fun W (hf : Fr [] w W) i o (hi : L[i]? = some o) => (hl.fr hf (NoO.nil _)).cell hi)
  have Hst : Hid ((w.alloc (.cells #[] 3)).ownsRow w.heap.size 3 1 (.slice (some ⟨w.heap.size, 0, none⟩) 0 0) 0 [] ∧ Fr [] w (w.alloc (.cells #[] 3))) := Lib.hid ⟨World.ownsRow_made w #[] 0 (Nat.le_refl _) (by simp [maxLen]) (by simp), (Fr.refl [] w).alloc _⟩
  rw [hN] at hn1 hn2
  clear h hb hl ha hc hN
  obtain ⟨ab, ao, asp⟩ := A0
  simp only at hA
  subst hA
  go_enter Try.func99, Try.ntmps99
  go_wp2_with fail
  go_loopg [3, 4] N (fun gg vo vi wr => ∃ (k : Nat), k + gg = N ∧ vi = .int .i64 (k : Int) ∧ wr.ownsRow w.heap.size 3 1 vo (wtT d k).length (ints (wtT d k)) ∧ Fr [] w wr)
  case atStart => exact ⟨0, by omega, rfl, Hst.out⟩
  case round =>
    obtain ⟨k, hk, rfl, ho, hf⟩ := hrel
    have Hk := Lib.hid hk
    have Hf := Lib.hid hf
    obtain ⟨Ao, co, rfl⟩ := own_shape ho
    have HO := Lib.hid ho
    have c0 := HC.out _ hf
    clear hk ho
    by_cases hlt : k < N
    · have hlt' : (k : Int) < (N : Int) := by omega
      have hk0 : (0 : Int) ≤ (k : Int) := by omega
      have hwk : IntKind.i64.wrap ((k : Int) + 1) = (k : Int) + 1 := IntWalk.i64_in _ (by omega)
      obtain ⟨o, hLo, hOi⟩ := HG.out k hlt
      obtain ⟨q', o', hqa, hqlt, x0, x1, x2⟩ := HL.out _ hf _ _ hLo
      injection hqa with hqa
      injection hqa with e1 e2 _
      subst e1 e2
      have hun := hOi.2.1
      clear hLo hOi
      obtain ⟨sf, wr_, un⟩ := o
      simp only at hun
      simp only [oc0, oc1, oc2] at x0 x1 x2
      cases un with
      | false =>
        have HN := Lib.hid (wtT_none hun.symm)
        clear hun
        go_wp2_with fail
        go_roundg (N - (k + 1))
        case measure => have := Hk.out; omega
        case rel => exact ⟨k + 1, by have := Hk.out; omega, by go_num, by rw [HN.out]; exact HO.out, Hf.out⟩
      | true =>
        have HN := Lib.hid (wtT_some hun.symm)
        have HLn := Lib.hid (wtT_len d k)
        have HEnd := Lib.hid (fun (v' : Value) (w' : World) (h1 : w'.ownsRow w.heap.size 3 1 v' ((wtT d k).length + 1) (ints (wtT d k) ++ [.int .i64 (k : Int)])) => (show w'.ownsRow w.heap.size 3 1 v' (wtT d (k + 1)).length (ints (wtT d (k + 1))) from by
          rw [HN.out, List.length_append]
          unfold ints at h1 ⊢
          rw [List.map_append]
          exact h1))
        have hm1 : (wtT d k).length + 1 ≤ maxLen := by have := HLn.out; simp only [maxLen]; omega
        have hm2 : ((wtT d k).length + 1) * 8 ≤ 140737488355328 := by have := HLn.out; omega
        have Hsz : w.heap.size ≤ (wr.alloc (.cells #[.int .i64 (k : Int)] 3)).heap.size := by have := hf.size; simp; omega
        have HO2 := Lib.hid (own_fr HO.out ((Fr.refl [] wr).alloc (.cells #[.int .i64 (k : Int)] 3)) (by simp))
        have Hf2 := Lib.hid (Hf.out.alloc (.cells #[.int .i64 (k : Int)] 3))
        have Hns := Lib.hid (news1 ((Blk.new wr 3 #[.int .i64 (k : Int)]).cell 0))
        clear hun HN HLn HO
        generalize ints (wtT d k) = XS at *
        generalize (wtT d k).length = M at *
        go_wp2_with (at_builtin; go_must (refine wpList_append_own _ rfl (.tmp 23) (.tmp 25) 42 rfl w.heap.size 3 i0 (.int .i64 0) 1 8 Try.underlying42 hi0 hz0 hz1 hz2 rfl (Nat.succ_pos 0) (.slice Ao M co) M XS rfl HO2.out ⟨wr.heap.size, 0, none⟩ 1 1 [.int .i64 (k : Int)] rfl rfl Hns.out (by simp [Value.oneCell']) hm1 hm2 Hsz ?_; intro v3 w3 hown3 hg3 hnn3; have hf3 := Hf2.out.own HO2.out hg3; have hE3 := Lib.hid (HEnd.out _ _ hown3); have Hf3 := Lib.hid hf3; clear hf3 hown3 hg3 hnn3))
        go_roundg (N - (k + 1))
        case measure => have := Hk.out; omega
        case rel => exact ⟨k + 1, by have := Hk.out; omega, by go_num, hE3.out, Hf3.out⟩
    · have hlt' : ¬ (k : Int) < (N : Int) := by omega
      obtain rfl : N = k := by have := Hk.out; omega
      go_wp2_with fail
      go_ret
      exact ⟨Ao, co, rfl, Zs.of_own HO.out rfl, Hf.out⟩
set_option maxRecDepth 100000 in
/-- The same numbers. -/
theorem same_any (A B : Option Addr) (n cA cB : Nat) (l : List Int) (w : World) (ha : Zw w (.slice A n cA) l) (hb : Zw w (.slice B n cB) l) : Calls Try.prog 98 #[.slice A n cA, .slice B n cB] w fun e w' => e = .returned (.bool true) ∧ Fr [] w w' := by
  obtain ⟨hn, hnc, hcm⟩ := ha.len
  have hmx : n ≤ 9223372036854775807 := by simp only [maxLen] at hcm; omega
  have HA := Lib.hid (fun W (hf : Fr [] w W) => ha.fr hf (NoZ.nil _))
  have HB := Lib.hid (fun W (hf : Fr [] w W) => hb.fr hf (NoZ.nil _))
  have Hn := Lib.hid hn
  clear ha hb hn hnc hcm
  go_enter Try.func98, Try.ntmps98
  go_wp2_with fail
  go_loopg [5] n (fun gg vi wr => ∃ (k : Nat), k + gg = n ∧ vi = .int .i64 (k : Int) ∧ Fr [] w wr)
  case atStart => exact ⟨0, by omega, rfl, Fr.refl _ _⟩
  case round =>
    obtain ⟨k, hk, rfl, hf⟩ := hrel
    have Hk := Lib.hid hk
    have Hf := Lib.hid hf
    by_cases hlt : k < n
    · have hlt' : (k : Int) < (n : Int) := by omega
      have hk0 : (0 : Int) ≤ (k : Int) := by omega
      have hwk : IntKind.i64.wrap ((k : Int) + 1) = (k : Int) + 1 := IntWalk.i64_in _ (by omega)
      have hx : l[k]? = some (l[k]'(by have := Hn.out; omega)) := List.getElem?_eq_getElem (by have := Hn.out; omega)
      generalize l[k]'(by have := Hn.out; omega) = x at hx
      obtain ⟨q, o, rfl, hq, hc⟩ := (HA.out _ hf).cell hx
      obtain ⟨q2, o2, rfl, hq2, hc2⟩ := (HB.out _ hf).cell hx
      clear hx hk hf
      go_wp2_with fail
      go_region
      go_wp2_with fail
      go_roundg (n - (k + 1))
      case measure => have := Hk.out; omega
      case rel => exact ⟨k + 1, by have := Hk.out; omega, by go_num, Hf.out.drew⟩
    · have hlt' : ¬ (k : Int) < (n : Int) := by omega
      go_wp2_with fail
      go_ret
      exact ⟨rfl, Hf.out⟩
end Go.Proofs.Ythmnloapjdalpaa

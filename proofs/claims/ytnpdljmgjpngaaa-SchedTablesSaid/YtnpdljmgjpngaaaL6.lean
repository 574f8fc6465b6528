/- SchedApart: the plain law and the walk. -/
import Derived.Test.YtnpdljmgjpngaaaT1
namespace Go.Proofs.Ytnpdljmgjpngaaa
open Go.RowKit
set_option linter.unusedVariables false
set_option linter.unusedSimpArgs false

structure Op3 where
  On : Int
  K : Int
  P : Int
/-- A slice of ops in memory: n of them, with what they hold. -/
def OpsIn (w : World) (A : Option Addr) (n : Nat) (ops : Nat → Op3) : Prop :=
  ∀ i, i < n → ∃ b off, A = some ⟨b, off, none⟩ ∧ b < w.heap.size ∧ w.cell? ⟨b, off + i * 3, none⟩ = some (.int .i64 (ops i).On) ∧ w.cell? ⟨b, off + i * 3 + 1, none⟩ = some (.int .i64 (ops i).K) ∧ w.cell? ⟨b, off + i * 3 + 2, none⟩ = some (.int .i64 (ops i).P)
theorem OpsIn.fr {w w' : World} {A : Option Addr} {n : Nat} {ops : Nat → Op3} (h : OpsIn w A n ops) (hf : Fr [] w w') : OpsIn w' A n ops := by
  intro i hi
  obtain ⟨b, off, h1, h2, h3, h4, h5⟩ := h i hi
  exact ⟨b, off, h1, Nat.lt_of_lt_of_le h2 hf.size, hf.cell_some h3 (by simp), hf.cell_some h4 (by simp), hf.cell_some h5 (by simp)⟩

/-- Of one partition, two tables know the same. -/
def Same (one : Int) (S U : List (Bool × Int)) : Prop := S.length = U.length ∧ ∀ j : Nat, (j : Int) = one → S[j]? = U[j]?
theorem Same.has {one : Int} {S U : List (Bool × Int)} (h : Same one S U) : has U one = has S one := by unfold Go.Proofs.Ytnpdljmgjpngaaa.has; rw [h.1]
theorem Same.getD {one : Int} {S U : List (Bool × Int)} (h : Same one S U) (hh : Go.Proofs.Ytnpdljmgjpngaaa.has S one = true) : U.getD one.toNat (true, 0) = S.getD one.toNat (true, 0) := by
  obtain ⟨j, rfl, _⟩ := has_yes hh
  have := h.2 j rfl
  simp [List.getD_eq_getElem?_getD, this]
theorem Same.entB {one : Int} {S U : List (Bool × Int)} (h : Same one S U) : entB U one = entB S one := by
  unfold Go.Proofs.Ytnpdljmgjpngaaa.entB
  rw [h.has]
  cases hh : Go.Proofs.Ytnpdljmgjpngaaa.has S one with
  | false => rfl
  | true => rw [h.getD hh]
theorem Same.argE {one : Int} {S U : List (Bool × Int)} (h : Same one S U) : argE U one = argE S one := by unfold Go.Proofs.Ytnpdljmgjpngaaa.argE; rw [h.has]
theorem Same.runsV {one : Int} {S U : List (Bool × Int)} (h : Same one S U) : runsV U one = runsV S one := by
  unfold Go.Proofs.Ytnpdljmgjpngaaa.runsV
  rw [h.has]
  cases hh : Go.Proofs.Ytnpdljmgjpngaaa.has S one with
  | false => rfl
  | true => rw [h.getD hh]
theorem Same.startsV {one : Int} {S U : List (Bool × Int)} (h : Same one S U) : startsV U one = startsV S one := by
  unfold Go.Proofs.Ytnpdljmgjpngaaa.startsV
  rw [h.has]
  cases hh : Go.Proofs.Ytnpdljmgjpngaaa.has S one with
  | false => rfl
  | true => simp only [if_true]; rw [h.getD hh]
theorem Same.set2 {one : Int} {S U : List (Bool × Int)} (h : Same one S U) (k : Nat) (x : Bool × Int) : Same one (S.set k x) (U.set k x) := by
  refine ⟨by simp [h.1], fun j hj => ?_⟩
  simp only [List.getElem?_set, h.1]
  split <;> first | rfl | exact h.2 j hj
theorem Same.set1 {one : Int} {S U : List (Bool × Int)} (h : Same one S U) {k : Nat} (hk : (k : Int) ≠ one) (x : Bool × Int) : Same one (S.set k x) U := by
  refine ⟨by simp [h.1], fun j hj => ?_⟩
  rw [List.getElem?_set, if_neg (by omega)]
  exact h.2 j hj
theorem Same.entS {one : Int} {S U : List (Bool × Int)} (h : Same one S U) : Same one (entS S one) (entS U one) := by
  unfold Go.Proofs.Ytnpdljmgjpngaaa.entS
  rw [h.entB]
  cases hh : Go.Proofs.Ytnpdljmgjpngaaa.entB S one with
  | false => exact h
  | true =>
    have hs : Go.Proofs.Ytnpdljmgjpngaaa.has S one = true := by unfold Go.Proofs.Ytnpdljmgjpngaaa.entB at hh; simp at hh; exact hh.1
    simp only [if_true]
    rw [h.getD hs]
    exact h.set2 _ _
theorem Same.trapS {one : Int} {S U : List (Bool × Int)} (h : Same one S U) : Same one (trapS S one) (trapS U one) := by
  unfold Go.Proofs.Ytnpdljmgjpngaaa.trapS
  rw [h.has]
  cases hh : Go.Proofs.Ytnpdljmgjpngaaa.has S one with
  | false => exact h
  | true =>
    simp only [if_true]
    rw [h.getD hh]
    exact h.set2 _ _
theorem Same.entS1 {one i : Int} {S U : List (Bool × Int)} (h : Same one S U) (hi : i ≠ one) : Same one (Go.Proofs.Ytnpdljmgjpngaaa.entS S i) U := by
  unfold Go.Proofs.Ytnpdljmgjpngaaa.entS
  cases hh : Go.Proofs.Ytnpdljmgjpngaaa.entB S i with
  | false => exact h
  | true =>
    have hs : Go.Proofs.Ytnpdljmgjpngaaa.has S i = true := by unfold Go.Proofs.Ytnpdljmgjpngaaa.entB at hh; simp at hh; exact hh.1
    obtain ⟨j, rfl, _⟩ := has_yes hs
    exact h.set1 (by simpa using hi) _
theorem Same.trapS1 {one i : Int} {S U : List (Bool × Int)} (h : Same one S U) (hi : i ≠ one) : Same one (Go.Proofs.Ytnpdljmgjpngaaa.trapS S i) U := by
  unfold Go.Proofs.Ytnpdljmgjpngaaa.trapS
  cases hh : Go.Proofs.Ytnpdljmgjpngaaa.has S i with
  | false => exact h
  | true =>
    obtain ⟨j, rfl, _⟩ := has_yes hh
    exact h.set1 (by simpa using hi) _
/-- No start is counted more often than k. -/
def Bd (k : Nat) (S : List (Bool × Int)) : Prop := ∀ x, x ∈ S → 0 ≤ x.2 ∧ x.2 ≤ (k : Int)
theorem Bd.mono {k k' : Nat} {S : List (Bool × Int)} (h : Bd k S) (hk : k ≤ k') : Bd k' S := fun x hx => by have := h x hx; omega
theorem Bd.set {k : Nat} {S : List (Bool × Int)} (h : Bd k S) (j : Nat) {x : Bool × Int} (hx : 0 ≤ x.2 ∧ x.2 ≤ (k : Int)) : Bd k (S.set j x) := by
  intro y hy
  rcases List.mem_or_eq_of_mem_set hy with h1 | h1
  · exact h y h1
  · subst h1; exact hx
theorem Bd.getD {k : Nat} {S : List (Bool × Int)} (h : Bd k S) {i : Int} (hh : Go.Proofs.Ytnpdljmgjpngaaa.has S i = true) : 0 ≤ (S.getD i.toNat (true, 0)).2 ∧ (S.getD i.toNat (true, 0)).2 ≤ (k : Int) := by
  obtain ⟨j, rfl, hj, x, hx⟩ := has_yes hh
  rw [getD_some hx]
  exact h x (List.mem_of_getElem? hx)
theorem Bd.entS {k : Nat} {S : List (Bool × Int)} (h : Bd k S) (i : Int) : Bd (k + 1) (Go.Proofs.Ytnpdljmgjpngaaa.entS S i) := by
  unfold Go.Proofs.Ytnpdljmgjpngaaa.entS
  cases hh : Go.Proofs.Ytnpdljmgjpngaaa.entB S i with
  | false => exact h.mono (Nat.le_succ k)
  | true =>
    have hs : Go.Proofs.Ytnpdljmgjpngaaa.has S i = true := by unfold Go.Proofs.Ytnpdljmgjpngaaa.entB at hh; simp at hh; exact hh.1
    have := h.getD hs
    exact (h.mono (Nat.le_succ k)).set _ (by show 0 ≤ (S.getD i.toNat (true, 0)).2 + 1 ∧ (S.getD i.toNat (true, 0)).2 + 1 ≤ ((k + 1 : Nat) : Int); omega)
theorem Bd.trapS {k : Nat} {S : List (Bool × Int)} (h : Bd k S) (i : Int) : Bd k (Go.Proofs.Ytnpdljmgjpngaaa.trapS S i) := by
  unfold Go.Proofs.Ytnpdljmgjpngaaa.trapS
  cases hh : Go.Proofs.Ytnpdljmgjpngaaa.has S i with
  | false => exact h
  | true => exact h.set _ (h.getD hh)
theorem entS_len (S : List (Bool × Int)) (i : Int) : (entS S i).length = S.length := by unfold entS; split <;> simp
theorem trapS_len (S : List (Bool × Int)) (i : Int) : (trapS S i).length = S.length := by unfold trapS; split <;> simp
theorem new0_bd (n : Nat) : Bd 0 (new0 n) := by
  intro x hx
  unfold new0 at hx
  rw [List.mem_replicate] at hx
  obtain ⟨_, rfl⟩ := hx
  simp

structure AI (w : World) (m : Nat) (one : Int) (k p g q h : Nat) (S U : List (Bool × Int)) (W : World) : Prop where
  t : TabAt W p g S
  u : TabAt W q h U
  l : S.length = m
  same : Same one S U
  bs : Bd k S
  bu : Bd k U
  fr : Fr [] w W
  gb : w.heap.size ≤ g
  hb : w.heap.size ≤ h
  ne : g ≠ h
theorem AI.al {w W : World} {m k p g q h : Nat} {one : Int} {S U : List (Bool × Int)} (H : AI w m one k p g q h S U W) (o : Obj) : AI w m one k p g q h S U (W.alloc o) :=
  have hf := (Fr.refl [] W).alloc o
  ⟨H.t.fr hf (by simp) (by simp), H.u.fr hf (by simp) (by simp), H.l, H.same, H.bs, H.bu, H.fr.alloc _, H.gb, H.hb, H.ne⟩
theorem AI.step1 {w W W' : World} {m k p g q h : Nat} {one : Int} {S S' U : List (Bool × Int)} (H : AI w m one k p g q h S U W) (hS : TabAt W' p g S') (hf : Fr [g] W W') (hl : S'.length = S.length) (hs : Same one S' U) (hb : Bd (k + 1) S') : AI w m one (k + 1) p g q h S' U W' :=
  ⟨hS, H.u.fr hf (by simp; exact H.u.ne H.t) (by simp; exact fun e => H.ne e.symm), by rw [hl, H.l], hs, hb, H.bu.mono (Nat.le_succ k), H.fr.step hf (by simp; exact H.gb), H.gb, H.hb, H.ne⟩
theorem AI.step2 {w W W' : World} {m k p g q h : Nat} {one : Int} {S U U' : List (Bool × Int)} (H : AI w m one k p g q h S U W) (hU : TabAt W' q h U') (hf : Fr [h] W W') (hs : Same one S U') (hb : Bd (k + 1) U') : AI w m one (k + 1) p g q h S U' W' :=
  ⟨H.t.fr hf (by simp; exact H.t.ne H.u) (by simp; exact H.ne), hU, H.l, hs, H.bs.mono (Nat.le_succ k), hb, H.fr.step hf (by simp; exact H.hb), H.gb, H.hb, H.ne⟩
theorem AI.both {w W W' W'' : World} {m k p g q h : Nat} {one : Int} {S U S' U' : List (Bool × Int)} (H : AI w m one k p g q h S U W) (hS : TabAt W' p g S') (hf : Fr [g] W W') (hU : TabAt W'' q h U') (hf' : Fr [h] W' W'') (hl : S'.length = S.length) (hs : Same one S' U') (hb : Bd (k + 1) S') (hb' : Bd (k + 1) U') : AI w m one (k + 1) p g q h S' U' W'' :=
  ⟨hS.fr hf' (by simp; exact H.t.ne H.u) (by simp; exact H.ne), hU, by rw [hl, H.l], hs, hb, hb', (H.fr.step hf (by simp; exact H.gb)).step hf' (by simp; exact H.hb), H.gb, H.hb, H.ne⟩
theorem AI.u' {w W W' : World} {m k p g q h : Nat} {one : Int} {S U : List (Bool × Int)} (H : AI w m one k p g q h S U W) (hf : Fr [g] W W') : TabAt W' q h U :=
  H.u.fr hf (by simp; exact H.u.ne H.t) (by simp; exact fun e => H.ne e.symm)

set_option maxRecDepth 100000 in
set_option maxHeartbeats 4000000 in
theorem apart_no (m one : Int) (A : Option Addr) (n cap : Nat) (w : World) (hm : m < 0 ∨ 8 < m) :
    Calls Try.prog 6 #[.int .i64 m, .int .i64 one, .slice A n cap] w fun e w' => e = .returned (.bool true) ∧ Fr [] w w' := by
  have HN := Lib.hid fun w => New_no m w hm
  rcases hm with hm | hm
  · go_enter Try.func6, Try.ntmps6
    go_wp2_with fail
    refine (HN.out _).mono ?_
    rintro e w1 ⟨rfl, rfl⟩
    go_wp2_with fail
    refine (HN.out _).mono ?_
    rintro e w1 ⟨rfl, rfl⟩
    go_wp2_with fail
    refine (fixed_any _).mono ?_
    rintro e w3 ⟨rfl, hf3⟩
    go_wp2_with fail
    go_ret
    exact ⟨rfl, hf3⟩
  · go_enter Try.func6, Try.ntmps6
    go_wp2_with fail
    refine (HN.out _).mono ?_
    rintro e w1 ⟨rfl, rfl⟩
    go_wp2_with fail
    refine (HN.out _).mono ?_
    rintro e w1 ⟨rfl, rfl⟩
    go_wp2_with fail
    refine (fixed_any _).mono ?_
    rintro e w3 ⟨rfl, hf3⟩
    go_wp2_with fail
    go_ret
    exact ⟨rfl, hf3⟩
end Go.Proofs.Ytnpdljmgjpngaaa

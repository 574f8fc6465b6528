/- Package port's methods, each by its contract on a port's abstract state. -/
import Derived.Test.YtblidpafeiiniaaW1
import Derived.Deep.RegionHeld3
import Derived.Deep.DeepFit
import Derived.Outline
import Derived.Laws.EntriesVeiled
namespace Go.Proofs.Ytblidpafeiiniaa
open Go.RowKit

/-- A port's state: its configuration, its messages, how many were lost. -/
structure PS where
  K : Int
  F : Int
  T : Int
  S : Int
  D : Int
  l : List (ByteArray × Int)
  lost : Int
/-- A message's cells. -/
def encM : List (ByteArray × Int) → List Value
  | [] => []
  | m :: r => .string m.1 :: .int .i64 m.2 :: encM r
theorem encM_append (a b : List (ByteArray × Int)) : encM (a ++ b) = encM a ++ encM b := by
  induction a with
  | nil => rfl
  | cons m r ih => simp [encM, ih]
theorem encM_length (a : List (ByteArray × Int)) : (encM a).length = a.length * 2 := by
  induction a with
  | nil => rfl
  | cons m r ih => simp [encM, ih]; omega
/-- At block p there is a port in state s. -/
def PortAt (w : World) (p : Nat) (s : PS) : Prop :=
  ∃ v, Blk w p 53 #[.int .i64 s.K, .int .i64 s.F, .int .i64 s.T, .int .i64 s.S, .int .i64 s.D, v, .int .i64 s.lost] ∧ Sl w 62 2 v s.l.length (encM s.l)
abbrev ptr (p : Nat) : Value := .pointer (some ⟨p, 0, none⟩)

theorem PortAt.fr {w w' : World} {p : Nat} {s : PS} {S : List Nat} (h : PortAt w p s) (hf : Fr S w w') (hp : p ∉ S) (hs : ∀ k, k ∈ S → ∀ cs, ¬ Blk w k 62 cs) : PortAt w' p s :=
  let ⟨v, hb, hl⟩ := h
  ⟨v, hb.fr hf hp, hl.fr hf hs⟩
theorem PortAt.not62 {w : World} {p : Nat} {s : PS} (h : PortAt w p s) (cs : Array Value) : ¬ Blk w p 62 cs :=
  let ⟨_, hb, _⟩ := h
  fun hc => by have := (hb.eq hc).1; simp at this

set_option maxHeartbeats 400000 in
theorem len_any (p : Nat) (s : PS) (w : World) (h : PortAt w p s) : Calls Try.prog 11 #[ptr p] w fun e w' => e = .returned (.int .i64 s.l.length) ∧ w = w' := by
  obtain ⟨v, hb, h1, h2⟩ := h
  have h5 := hb.cell 5
  simp at h5
  clear h1
  rcases h2 with ⟨rfl, h3⟩ | ⟨g, o, cap, cs, rfl, h3, h4, _, _⟩
  · rw [h3]
    go_enter Try.func11, Try.ntmps11
    go_wp2
    go_ret
    exact ⟨rfl, rfl⟩
  · go_enter Try.func11, Try.ntmps11
    go_wp2
    go_ret
    exact ⟨rfl, rfl⟩

set_option maxHeartbeats 400000 in
theorem clear_any (p : Nat) (s : PS) (w : World) (h : PortAt w p s) : Calls Try.prog 13 #[ptr p] w fun e w' => e = .returned (.tuple #[]) ∧ PortAt w' p { s with l := [], lost := 0 } ∧ Fr [p] w w' := by
  obtain ⟨v, hb, -, -⟩ := h
  have h5 := hb.cell 5
  have h6 := hb.cell 6
  have hf := hb.frozen
  simp at h5 h6
  go_enter Try.func13, Try.ntmps13
  go_wp2
  go_end0
  refine ⟨rfl, ⟨_, (hb.set_ 5 _).set_ 6 _, Sl.nil _ _ _⟩, ((Fr.refl _ _).setCell (by simp) _).setCell (by simp) _⟩

set_option maxHeartbeats 400000 in
theorem keep_any (p : Nat) (s : PS) (w : World) (m : ByteArray) (t : Int) (h : PortAt w p s) : Calls Try.prog 25 #[ptr p, .agg #[.string m, .int .i64 t]] w fun e w' => e = .returned (.tuple #[]) ∧ PortAt w' p { s with l := [(m, t)] } ∧ Fr [p] w w' := by
  obtain ⟨v, hb, -, -⟩ := h
  have h5 := hb.cell 5
  have hf := hb.frozen
  have hlt := hb.lt
  simp at h5
  go_enter Try.func25, Try.ntmps25
  go_wp2
  go_end0
  have hN := Blk.new ((w.setCell ⟨p, 5, none⟩ (.slice (some ⟨w.heap.size + 1, 0, none⟩) 1 1)).alloc (.cells #[.string m, .int .i64 t] 62)) 62 #[.string m, .int .i64 t]
  simp only [World.size_alloc, World.size_setCell] at hN
  refine ⟨rfl, ⟨_, ((hb.set_ 5 _).alloc _).alloc _, by simp [encM], .inr ⟨_, 0, 1, _, rfl, by simp, by simp [maxLen], hN, ?_⟩⟩, (((Fr.refl _ _).setCell (by simp) _).alloc _).alloc _⟩
  intro j u hu
  simpa [encM] using hu

set_option maxHeartbeats 400000 in
theorem kind0_any (p : Nat) (s : PS) (w : World) (h : PortAt w p s) (hk : s.K = 0) : Calls Try.prog 23 #[ptr p] w fun e w' =>
   e = .returned (.agg #[.func (.func 25) #[ptr p] #[], .func (.func 26) #[ptr p] #[]]) ∧ Fr [] w w' := by
  obtain ⟨v, hb, -, -⟩ := h
  have hlt := hb.lt
  have h5 := hb.cell 0
  simp at h5
  have i0 : ∀ w, (Instr.index 64 (.agg #[.func (.func 25) #[ptr p] #[], .func (.func 26) #[ptr p] #[], .func (.func 27) #[ptr p] #[], .func (.func 28) #[ptr p] #[]]) (.int .i64 0)).run Try.prog w = .ok (.agg #[.func (.func 25) #[ptr p] #[], .func (.func 26) #[ptr p] #[]]) w := fun _ => by kernel_rfl
  rw [hk] at h5
  clear hb hk
  go_enter Try.func23, Try.ntmps23
  go_wp2
  refine bodyPost_ret (v := .agg #[.func (.func 25) #[ptr p] #[], .func (.func 26) #[ptr p] #[]]) (by simp [results, Try.results23, go_sem]) rfl ⟨rfl, ?_⟩
  exact (Fr.refl _ _).alloc _
set_option maxHeartbeats 400000 in
theorem kind1_any (p : Nat) (s : PS) (w : World) (h : PortAt w p s) (hk : s.K = 1) : Calls Try.prog 23 #[ptr p] w fun e w' =>
   e = .returned (.agg #[.func (.func 27) #[ptr p] #[], .func (.func 28) #[ptr p] #[]]) ∧ Fr [] w w' := by
  obtain ⟨v, hb, -, -⟩ := h
  have hlt := hb.lt
  have h5 := hb.cell 0
  simp at h5
  have i0 : ∀ w, (Instr.index 64 (.agg #[.func (.func 25) #[ptr p] #[], .func (.func 26) #[ptr p] #[], .func (.func 27) #[ptr p] #[], .func (.func 28) #[ptr p] #[]]) (.int .i64 1)).run Try.prog w = .ok (.agg #[.func (.func 27) #[ptr p] #[], .func (.func 28) #[ptr p] #[]]) w := fun _ => by kernel_rfl
  rw [hk] at h5
  clear hb hk
  go_enter Try.func23, Try.ntmps23
  go_wp2
  refine bodyPost_ret (v := .agg #[.func (.func 27) #[ptr p] #[], .func (.func 28) #[ptr p] #[]]) (by simp [results, Try.results23, go_sem]) rfl ⟨rfl, ?_⟩
  exact (Fr.refl _ _).alloc _
theorem clip_any (A : Option Addr) (n cap : Nat) (w : World) (h : n ≤ cap) (h2 : cap ≤ maxLen) : Calls Try.prog 29 #[.slice A n cap] w fun e w' =>
   e = .returned (.slice A n n) ∧ w = w' := by
  unfold maxLen at h2
  go_enter Try.func29, Try.ntmps29
  go_wp2
  go_ret
  exact ⟨rfl, rfl⟩

theorem Try.info62 : (Try.prog.info? 62).map (fun i => (i.zero, i.size, i.bytes)) = some (some (.agg #[.string ByteArray.empty, .int .i64 0]), 2, 24) := by kernel_rfl
theorem Sl.olds {w : World} {e : TypeId} {size n : Nat} {xs : List Value} {A : Option Addr} {cap c : Nat} (h : Sl w e size (.slice A n cap) n xs) (hc : A = none → c = 0) : Olds w A n c xs := by
  rcases h.2 with ⟨h2, rfl⟩ | ⟨g, o, cap', cs, hv, _, _, hb, hcs⟩
  · injection h2 with hA hn hcp
    subst hA
    exact ⟨fun _ => ⟨rfl, hc rfl⟩, fun b hb => (by cases hb)⟩
  · injection hv with hA hn hcp
    subst hA
    refine ⟨fun h => (by cases h), fun b hb' j u hu => ?_⟩
    injection hb' with hb'
    subst hb'
    have e : (⟨g, o, none⟩ : Addr).add j = ⟨g, o + j, none⟩ := by simp [Addr.add]
    rw [e, hb.cell]
    exact hcs j u hu

set_option maxHeartbeats 400000 in
theorem queue_full (p : Nat) (s : PS) (w : World) (m : ByteArray) (t : Int) (h : PortAt w p s) (hf : (s.l.length : Int) = s.D) (hl : 0 ≤ s.lost) (hl2 : s.lost ≤ 4611686018427387904) :
    Calls Try.prog 27 #[ptr p, .agg #[.string m, .int .i64 t]] w fun e w' => e = .returned (.tuple #[]) ∧ PortAt w' p { s with lost := s.lost + 1 } ∧ Fr [p] w w' := by
  obtain ⟨v, hb, hs⟩ := h
  have h5 := hb.cell 5
  have h4 := hb.cell 4
  have h6 := hb.cell 6
  have hfz := hb.frozen
  have hlt := hb.lt
  simp at h5 h4 h6
  have ht : ((s.l.length : Int) == s.D) = true := by simp [hf]
  clear hf
  have Hb := Lib.hid hb; clear hb
  have Hs := Lib.hid hs; clear hs
  have hv : ∃ A cap, v = .slice A s.l.length cap := by
    rcases Hs.out.2 with ⟨h2, h3⟩ | ⟨g, o, cap', cs, hv, _⟩
    · exact ⟨none, 0, by rw [h2, h3]⟩
    · exact ⟨_, _, hv⟩
  obtain ⟨A, cap, rfl⟩ := hv
  go_enter Try.func27, Try.ntmps27
  go_wp2
  go_quiet (fail)
  go_wp2
  refine bodyPost_ret (results_none rfl _ _ _) rfl ?_
  exact ⟨rfl, ⟨_, (((Hb.out.alloc _).drewN nq).set_ 6 _), Hs.out.fr (S := [p]) ((((Fr.refl _ _).alloc _).drewN nq).setCell (by simp) _) (fun k hk cs hc => by simp at hk; subst hk; have := (Hb.out.eq hc).1; simp at this)⟩, ((((Fr.refl _ _).alloc _).drewN nq).setCell (by simp) _)⟩

theorem queue_end {p : Nat} {s : PS} {w W : World} {m : ByteArray} {t : Int} {v : Value} (cap' : Nat) (cs : Array Value)
    (hb : Blk w p 53 #[.int .i64 s.K, .int .i64 s.F, .int .i64 s.T, .int .i64 s.S, .int .i64 s.D, v, .int .i64 s.lost])
    (hf : Fr [p] w W) (h1 : Blk W p 53 (#[.int .i64 s.K, .int .i64 s.F, .int .i64 s.T, .int .i64 s.S, .int .i64 s.D, v, .int .i64 s.lost].setIfInBounds 5 (.slice (some ⟨w.heap.size + 2, 0, none⟩) (s.l.length + 1) cap')))
    (h2 : Blk W (w.heap.size + 2) 62 cs) (h3 : s.l.length + 1 ≤ cap') (h4 : cap' ≤ maxLen) (h5 : ∀ (j : Nat) (u : Value), (encM s.l ++ [.string m, .int .i64 t])[j]? = some u → cs[j]? = some u) :
    Ending.returned (.tuple #[]) = Ending.returned (.tuple #[]) ∧ PortAt W p { s with l := s.l ++ [(m, t)] } ∧ Fr [p] w W := by
  refine ⟨rfl, ⟨_, h1, ?_, .inr ⟨w.heap.size + 2, 0, cap', cs, by simp, by simp; omega, h4, h2, ?_⟩⟩, hf⟩
  · rw [encM_length]
  · intro j u hu
    rw [encM_append] at hu
    simpa [encM] using h5 j u hu
set_option maxHeartbeats 400000 in
theorem queue_room (p : Nat) (s : PS) (w : World) (m : ByteArray) (t : Int) (h : PortAt w p s) (hf : (s.l.length : Int) < s.D) (hd : s.D ≤ 8) :
    Calls Try.prog 27 #[ptr p, .agg #[.string m, .int .i64 t]] w fun e w' => e = .returned (.tuple #[]) ∧ PortAt w' p { s with l := s.l ++ [(m, t)] } ∧ Fr [p] w w' := by
  obtain ⟨v, hb, hs⟩ := h
  have h5 := hb.cell 5
  have h4 := hb.cell 4
  have hfz := hb.frozen
  have hlt := hb.lt
  simp at h5 h4
  have ht : ((s.l.length : Int) == s.D) = false := by rw [beq_eq_false_iff_ne]; omega
  have Hb := Lib.hid hb; clear hb
  have Hs := Lib.hid hs; clear hs
  have hv : ∃ A cap, v = .slice A s.l.length cap ∧ s.l.length ≤ cap ∧ cap ≤ maxLen := by
    rcases Hs.out.2 with ⟨h2, h3⟩ | ⟨g, o, cap', cs, hv, h3, h4, _⟩
    · exact ⟨none, 0, by rw [h2, h3], by omega, by simp [maxLen]⟩
    · exact ⟨_, _, hv, h3, h4⟩
  obtain ⟨A, cap, rfl, hcap1, hcap2⟩ := hv
  obtain ⟨i0, hi0, hz0, hz1, hz2⟩ := info3 Try.info62
  go_enter Try.func27, Try.ntmps27
  go_wp2
  go_quiet (fail)
  go_wp2
  have hA0 : A = none → s.l.length = 0 := by
    intro hA
    rcases Hs.out.2 with ⟨_, h3⟩ | ⟨g, o, cap', cs, hv, _⟩
    · exact h3
    · rw [hA] at hv; cases hv
  have hlt1 : p < w.heap.size + 1 := by omega
  have hlt2 : p < w.heap.size + 1 + 1 := by omega
  have H0 := Lib.hid (Hs.out.olds hA0)
  have HA0 := Lib.hid hA0; clear hA0
  go_region_law (first
    | (refine step_append_fresh _ rfl (.tmp 27) (.tmp 29) 51 rfl 62 i0 _ 2 24 Try.underlying51 hi0 hz0 hz1 hz2 A s.l.length s.l.length (encM s.l) (by simp [Act.eval]) (encM_length _)
         (H0.out.fr (by repeat (first | exact Fr.refl _ _ | refine Fr.alloc ?_ _ | refine Fr.drewN ?_ _ | refine Fr.drew ?_)))
         ⟨w.heap.size + 1, 0, none⟩ 1 1 [.string m, .int .i64 t] (by simp [Act.eval]) rfl (news2 (by simp [go_sem]) (by simp [go_sem])) (by omega) (by omega) (by simp only [maxLen]; omega) (by omega) (w.heap.size + 2) (by simp) ?_
       intro cap' cs hc1 hc2 hc3)
    | (go_simp; go_at_call 29; refine (clip_any _ _ _ _ hcap1 hcap2).mono ?_; rintro e w' ⟨rfl, rfl⟩))
  all_goals
    go_end0
    refine queue_end cap' cs Hb.out ?_ ?_ ?_ (by omega) hc2 hc3
    · repeat (first | exact Fr.refl _ _ | refine Fr.alloc ?_ _ | refine Fr.drewN ?_ _ | refine Fr.drew ?_ | refine Fr.setCell ?_ (.inl (by simp)) _)
    · repeat (first | exact Hb.out | refine Blk.alloc ?_ _ | refine Blk.drewN ?_ _ | refine Blk.drew ?_ | refine Blk.set_ ?_ 5 _)
    · repeat (first | (refine Blk.new' ?_; simp; done) | refine Blk.drewN ?_ _ | refine Blk.drew ?_ | (refine Blk.far ?_ (by simp; omega) _))
end Go.Proofs.Ytblidpafeiiniaa

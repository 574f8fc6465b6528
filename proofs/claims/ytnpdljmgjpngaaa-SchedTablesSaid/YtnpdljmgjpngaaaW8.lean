/- Next: the program's. -/
import Derived.Test.YtnpdljmgjpngaaaW7
namespace Go.Proofs.Ytnpdljmgjpngaaa
open Go.RowKit Go.Shelf
attribute [local go_sem] Oper.semAt_some
set_option linter.unusedVariables false
set_option linter.unusedSimpArgs false

theorem nx_leave {w : World} {r8 r9 : Nat} {x er : Int} {R : Ending → World → Prop} {tmps : Array Value} (hs : tmps.size = 61) (h8 : tmps[8]? = some (.pointer (some ⟨r8, 0, none⟩))) (h9 : tmps[9]? = some (.pointer (some ⟨r9, 0, none⟩)))
    (hR : ∀ W', Fr [] w W' → R (.returned (.tuple #[.int .i64 x, .int .i64 er])) W') : ∀ (dl : List Nat) (W : World), dl.Nodup → Blk W r8 3 #[.int .i64 x] → Blk W r9 25 #[.int .i64 er] → Fr [] w W →
      (∀ D, D ∈ dl → w.heap.size ≤ D ∧ W.heap[D]? = some (.deferred (some []))) → LeavesInM Fence.wide 3 Try.prog Try.f16 tmps R (dl.map fun D => { target := .collected D, args := #[] }) .returning W := by
  intro dl
  induction dl with
  | nil =>
    intro W _ b8 b9 hfr _
    have e8 := b8.cell 0
    have e9 := b9.cell 0
    simp at e8 e9
    have g8 : tmps.getD 8 undef = .pointer (some ⟨r8, 0, none⟩) := by simp [Array.getD, hs] at h8 ⊢; simpa using h8
    have g9 : tmps.getD 9 undef = .pointer (some ⟨r9, 0, none⟩) := by simp [Array.getD, hs] at h9 ⊢; simpa using h9
    refine ⟨.tuple #[.int .i64 x, .int .i64 er], ?_, hR W hfr⟩
    simp [results, Try.f16, go_sem, g8, g9, h8, h9, e8, e9]
  | cons D dl ih =>
    intro W hn b8 b9 hfr hd
    have hK := (hd D (by simp)).2
    refine ⟨by simp, .inl ⟨_, _, rfl, run_takeDeferred hK, ?_⟩⟩
    have key := fun g ty cs (hb : Blk W g ty cs) => ownFrom_blk (β := Unit) D g ty (fun _ => cs) () W (W.putObj D (.deferred none)) (some D) hb (grownBy_putObj' W D _) (fun r e => by cases e; exact ⟨Nat.le_refl _, _, hK, rfl⟩)
    have hn2 := List.nodup_cons.1 hn
    refine ih (W.putObj D (.deferred none)) hn2.2 (key _ _ _ b8) (key _ _ _ b9) (hfr.putDef (hd D (by simp)).1 hK) (fun D' hD' => ⟨(hd D' (by simp [hD'])).1, ?_⟩)
    exact (World.putObj_heap_other (by rintro rfl; exact hn2.1 hD')).trans (hd D' (by simp [hD'])).2
theorem NxEnd.leave {w : World} {r8 r9 : Nat} {x er : Int} {a : Act} {W : World} {R : Ending → World → Prop} (h : NxEnd w r8 r9 x er a W) (hR : ∀ W', Fr [] w W' → R (.returned (.tuple #[.int .i64 x, .int .i64 er])) W') :
    bodyPostM Fence.wide 3 Try.prog Try.f16 R .ret a W := by
  obtain ⟨dl, hn, hdl, hd⟩ := h.d
  show LeavesInM Fence.wide 3 Try.prog Try.f16 a.tmps R a.defers .returning W
  rw [hdl]
  exact nx_leave h.sz h.t8 h.t9 hR dl W hn h.b8 h.b9 h.fr hd

/-- x is the first tick, from t on, at which a window of the kind and index begins. -/
def IsNext (l : List Win) (K I t x : Int) : Prop := t ≤ x ∧ (∃ k v, l[k]? = some v ∧ isW K I v = true ∧ x % tot l l.length = tot l k) ∧ ∀ y, t ≤ y → y < x → ¬ ∃ k v, l[k]? = some v ∧ isW K I v = true ∧ y % tot l l.length = tot l k
/-- What Next tells of a tick. -/
def NextIs (l : List Win) (K I t x er : Int) : Prop := (er = 0 ∧ IsNext l K I t x) ∨ (er = 130 ∧ x = 0 ∧ ∀ v, v ∈ l → isW K I v = false)
def NxPost (w : World) (l : List Win) (K I t : Int) (e : Ending) (w' : World) : Prop := ∃ x er, e = .returned (.tuple #[.int .i64 x, .int .i64 er]) ∧ NextIs l K I t x er ∧ Fr [] w w'

theorem tot_lt {l : List Win} (h : okL l = true) : ∀ {j k : Nat}, j < k → k ≤ l.length → tot l j < tot l k := by
  intro j k
  induction k with
  | zero => intro h1; omega
  | succ k ih =>
    intro h1 h2
    have hx : l[k]? = some l[k] := List.getElem?_eq_getElem (by omega)
    have hm := (mayW_iff _).1 (okL_at h hx)
    rw [tot_succ hx]
    rcases Nat.lt_succ_iff_lt_or_eq.1 h1 with h3 | rfl
    · have := ih h3 (by omega)
      omega
    · omega
theorem emod_base {L t y : Int} (hL : 0 < L) (h1 : t - t % L ≤ y) (h2 : y < t - t % L + L) : y % L = y - (t - t % L) := by
  have h3 := Int.emod_add_mul_ediv t L
  have h4 : t - t % L = L * (t / L) := by omega
  rw [h4] at h1 h2 ⊢
  have h5 : y = (y - L * (t / L)) + L * (t / L) := by omega
  generalize hz : y - L * (t / L) = z at *
  rw [h5, Int.add_mul_emod_self_left]
  exact Int.emod_eq_of_lt (by omega) (by omega)
theorem mem_spTo {l : List Win} {hok : okL l = true} {s : Sp} : ∀ {k hk}, s ∈ spTo l hok k hk ↔ ∃ j, ∃ hj : j < k, s = spAt l hok j (by omega) := by
  intro k
  induction k with
  | zero => intro hk; simp [spTo]
  | succ k ih =>
    intro hk
    rw [spTo, List.mem_append, ih, List.mem_singleton]
    constructor
    · rintro (⟨j, hj, rfl⟩ | rfl)
      · exact ⟨j, by omega, rfl⟩
      · exact ⟨k, by omega, rfl⟩
    · rintro ⟨j, hj, rfl⟩
      rcases Nat.lt_succ_iff_lt_or_eq.1 hj with h | rfl
      · exact .inl ⟨j, h, rfl⟩
      · exact .inr rfl
theorem hits_at {l : List Win} {hok : okL l = true} {K I base t : Int} {k : Nat} {hk : k < l.length} : hits K I base t (spAt l hok k hk) = (isW K I l[k] && decide (t ≤ base + tot l k)) := rfl

/-- Found in the first pass. -/
theorem next_first {l : List Win} {hok : okL l = true} {K I t : Int} {pre : List Sp} {x : Sp} (h1 : pre ++ [x] <+: spL l hok) (h2 : hits K I (t - t % tot l l.length) t x = true) (h3 : NoHits K I (t - t % tot l l.length) t pre) :
    IsNext l K I t (t - t % tot l l.length + x.fr) := by
  obtain ⟨k, hk, rfl, rfl⟩ := spTo_snoc_inv h1
  have hl := okL_len hok
  have hL := tot_bd hok l.length (Nat.le_refl _)
  have hk0 := tot_bd hok k (by omega)
  have hk1 := tot_lt hok hk (Nat.le_refl _)
  rw [hits_at, Bool.and_eq_true, decide_eq_true_eq] at h2
  refine ⟨h2.2, ⟨k, l[k], List.getElem?_eq_getElem hk, h2.1, ?_⟩, ?_⟩
  · show (t - t % tot l l.length + tot l k) % _ = _
    rw [emod_base (t := t) (by omega) (by omega) (by omega)]
    omega
  · rintro y hy1 hy2 ⟨j, v, hj, hv, hy⟩
    have hjl : j < l.length := (List.getElem?_eq_some_iff.1 hj).1
    have hy2' : y < t - t % tot l l.length + tot l k := hy2
    have r0 := Int.emod_nonneg t (show tot l l.length ≠ 0 by omega)
    rw [emod_base (t := t) (by omega) (by omega) (by omega)] at hy
    have hjk : j < k := by
      rcases Nat.lt_or_ge j k with h | h
      · exact h
      · exfalso
        rcases Nat.eq_or_lt_of_le h with rfl | h
        · omega
        · have := tot_lt hok h (by omega)
          omega
    have := h3 _ (mem_spTo.2 ⟨j, hjk, rfl⟩)
    rw [hits_at, Bool.and_eq_false_iff, decide_eq_false_iff_not] at this
    have hje : l[j] = v := (List.getElem?_eq_some_iff.1 hj).2
    rcases this with h | h
    · rw [hje, hv] at h; cases h
    · omega
/-- Found in the second. -/
theorem next_second {l : List Win} {hok : okL l = true} {K I t : Int} {pre : List Sp} {x : Sp} (h0 : NoHits K I (t - t % tot l l.length) t (spL l hok)) (h1 : pre ++ [x] <+: spL l hok) (h2 : hits K I (t - t % tot l l.length + tot l l.length) t x = true) (h3 : NoHits K I (t - t % tot l l.length + tot l l.length) t pre) :
    IsNext l K I t (t - t % tot l l.length + tot l l.length + x.fr) := by
  obtain ⟨k, hk, rfl, rfl⟩ := spTo_snoc_inv h1
  have hl := okL_len hok
  have hL := tot_bd hok l.length (Nat.le_refl _)
  have hk0 := tot_bd hok k (by omega)
  have hk1 := tot_lt hok hk (Nat.le_refl _)
  have r0 := Int.emod_nonneg t (show tot l l.length ≠ 0 by omega)
  have r1 := Int.emod_lt_of_pos t (show 0 < tot l l.length by omega)
  have hm2 : ∀ y, t - t % tot l l.length + tot l l.length ≤ y → y < t - t % tot l l.length + tot l l.length + tot l l.length → y % tot l l.length = y - (t - t % tot l l.length + tot l l.length) := by
    intro y hy1 hy2
    have h5 : y % tot l l.length = (y - tot l l.length) % tot l l.length := by
      rw [show y - tot l l.length = y + tot l l.length * (-1) by omega, Int.add_mul_emod_self_left]
    rw [h5, emod_base (t := t) (by omega) (by omega) (by omega)]
    omega
  rw [hits_at, Bool.and_eq_true, decide_eq_true_eq] at h2
  refine ⟨h2.2, ⟨k, l[k], List.getElem?_eq_getElem hk, h2.1, ?_⟩, ?_⟩
  · show (t - t % tot l l.length + tot l l.length + tot l k) % _ = _
    rw [hm2 _ (by omega) (by omega)]
    omega
  · rintro y hy1 hy2 ⟨j, v, hj, hv, hy⟩
    have hjl : j < l.length := (List.getElem?_eq_some_iff.1 hj).1
    have hje : l[j] = v := (List.getElem?_eq_some_iff.1 hj).2
    have hy2' : y < t - t % tot l l.length + tot l l.length + tot l k := hy2
    by_cases hyb : y < t - t % tot l l.length + tot l l.length
    · rw [emod_base (t := t) (by omega) (by omega) (by omega)] at hy
      have := h0 _ (mem_spTo.2 ⟨j, hjl, rfl⟩)
      rw [hits_at, Bool.and_eq_false_iff, decide_eq_false_iff_not] at this
      rcases this with h | h
      · rw [hje, hv] at h; cases h
      · omega
    · rw [hm2 _ (by omega) (by omega)] at hy
      have hjk : j < k := by
        rcases Nat.lt_or_ge j k with h | h
        · exact h
        · exfalso
          rcases Nat.eq_or_lt_of_le h with rfl | h
          · omega
          · have := tot_lt hok h (by omega)
            omega
      have := h3 _ (mem_spTo.2 ⟨j, hjk, rfl⟩)
      rw [hits_at, Bool.and_eq_false_iff, decide_eq_false_iff_not] at this
      rcases this with h | h
      · rw [hje, hv] at h; cases h
      · have := tot_bd hok j (by omega)
        omega
/-- Not found. -/
theorem next_none {l : List Win} {hok : okL l = true} {K I t : Int} (h0 : NoHits K I (t - t % tot l l.length + tot l l.length) t (spL l hok)) : ∀ v, v ∈ l → isW K I v = false := by
  intro v hv
  obtain ⟨j, hj⟩ := List.getElem?_of_mem hv
  have hjl : j < l.length := (List.getElem?_eq_some_iff.1 hj).1
  have hje : l[j] = v := (List.getElem?_eq_some_iff.1 hj).2
  have h5 := h0 _ (mem_spTo.2 ⟨j, hjl, rfl⟩)
  have hl := okL_len hok
  have hL := tot_bd hok l.length (Nat.le_refl _)
  have r1 := Int.emod_lt_of_pos t (show 0 < tot l l.length by omega)
  have := tot_bd hok j (by omega)
  rw [hits_at, Bool.and_eq_false_iff, decide_eq_false_iff_not, hje] at h5
  rcases h5 with h | h
  · exact h
  · omega
end Go.Proofs.Ytnpdljmgjpngaaa

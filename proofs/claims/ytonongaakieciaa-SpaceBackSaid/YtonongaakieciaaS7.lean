/- The pages dealt: what New's walk keeps. -/
import Derived.Test.YtonongaakieciaaS6
namespace Go.Proofs.Ytonongaakieciaa
open Go.RowKit Go.Shelf
set_option linter.unusedVariables false
set_option linter.unusedSimpArgs false
set_option maxRecDepth 100000
theorem Try.info3 : (Try.prog.info? 3).map (fun i => (i.zero, i.size, i.bytes)) = some (some (.int .i64 0), 1, 8) := by kernel_rfl
/-- A make of numbers: noughts. -/
theorem make_ints (n : Nat) (hn : n ≤ 8) : ∃ Z : Array Value, (∀ w : World, (Instr.makeSlice 49 (.int .i64 n) (.int .i64 n)).run Try.prog w = .ok (.slice (some ⟨w.heap.size, 0, none⟩) n n) (w.alloc (.cells Z 3))) ∧ ∀ j, j < n → Z[j]? = some (.int .i64 0) := by
  obtain ⟨i0, hi0, hz0, hz1, hz2⟩ := info3 Try.info3
  refine ⟨madeCells (Value.int .i64 0).cells (n * 1), fun w => ?_, fun j hj => ?_⟩
  · have := run_make (P := Try.prog) w 49 3 i0 _ Try.underlying49 hi0 hz0 .i64 .i64 n n (by omega) (by omega) (by rw [hz2]; omega) (by omega)
    rw [hz1] at this
    simpa using this
  · simp [madeCells, Value.cells, hj, Nat.mod_one]
/-- The ends that the body has stored. -/
def enF (m : Nat) (pre : List (Nat × Nat)) : (Nat → Nat) × Nat := pre.foldl (fun s x => (fun j => if j = min x.1 (m - 1) then s.2 + 1 else s.1 j, s.2 + 1)) (fun _ => 0, 0)
theorem enF_snoc (m : Nat) (pre : List (Nat × Nat)) (x : Nat × Nat) : enF m (pre ++ [x]) = (fun j => if j = min x.1 (m - 1) then (enF m pre).2 + 1 else (enF m pre).1 j, (enF m pre).2 + 1) := by
  unfold enF
  rw [List.foldl_append]
  rfl
theorem enF_two (m : Nat) (pre : List (Nat × Nat)) : (enF m pre).2 = pre.length := by
  have H : ∀ (pre : List (Nat × Nat)) (s : (Nat → Nat) × Nat), (pre.foldl (fun (s : (Nat → Nat) × Nat) (x : Nat × Nat) => (fun j => if j = min x.1 (m - 1) then s.2 + 1 else s.1 j, s.2 + 1)) s).2 = s.2 + pre.length := by
    intro pre
    induction pre with
    | nil => intro s; rfl
    | cons x pre ih =>
      intro s
      rw [List.foldl_cons, ih]
      simp only [List.length_cons]
      omega
  unfold enF
  rw [H]
  simp
theorem enF_dlt {t : List Pg} (hok : t.all ptOk = true) {m : Nat} (hm : m = t.length) : ∀ p, p ≤ m → ∀ j, j < m → (enF m (dlt t p 0)).1 j = if j < p then tot t (j + 1) else 0 := by
  intro p
  induction p with
  | zero => intro _ j hj; rfl
  | succ p ih =>
    intro hp j hj
    obtain ⟨q, hq⟩ : ∃ q, t[p]? = some q := ⟨_, List.getElem?_eq_getElem (by omega)⟩
    obtain ⟨g1, g2, g3⟩ := ptOk_all hok hq
    have hr : ∀ k, (enF m (dlt t p k)).1 j = if j < p then tot t (j + 1) else if j = p then (if k = 0 then 0 else tot t p + k) else 0 := by
      intro k
      induction k with
      | zero =>
        rw [ih (by omega) j hj]
        split
        · rfl
        · simp
      | succ k ihk =>
        rw [dlt_next, enF_snoc, enF_two, dlt_len]
        simp only
        rw [Nat.min_eq_left (by omega)]
        by_cases hjp : j = p
        · subst hjp
          rw [if_pos rfl, if_neg (by omega), if_pos rfl, if_neg (by omega)]
          omega
        · rw [if_neg hjp, ihk, if_neg hjp]
          split
          · rfl
          · rfl
    rw [dlt_row, hr]
    by_cases hjp : j < p
    · rw [if_pos hjp, if_pos (by omega)]
    · rw [if_neg hjp]
      by_cases hje : j = p
      · subst hje
        rw [if_pos rfl, if_neg (by omega), if_pos (by omega), tot_succ]
      · rw [if_neg hje, if_neg (by omega)]
theorem dlt_snd (t : List Pg) : ∀ p k, (dlt t p k).map (·.2) = List.range (tot t p + k) := by
  intro p
  induction p with
  | zero =>
    intro k
    induction k with
    | zero => rfl
    | succ k ih => rw [dlt_next, List.map_append, ih, show tot t 0 + (k + 1) = (tot t 0 + k) + 1 from by omega, List.range_succ]; rfl
  | succ p ih =>
    intro k
    induction k with
    | zero => rw [dlt_row, ih, tot_succ]; rfl
    | succ k ihk => rw [dlt_next, List.map_append, ihk, show tot t (p + 1) + (k + 1) = (tot t (p + 1) + k) + 1 from by omega, List.range_succ]; rfl
/-- The page that is dealt. -/
def pgOf (x : Nat × Nat) : Pg := ⟨x.2, 3⟩
/-- What New's walk keeps. -/
structure NwI (w : World) (m s : Nat) (pre : List (Nat × Nat)) (W : World) : Prop where
  own : ∃ v, Blk W s 62 #[v] ∧ W.ownsRow w.heap.size 61 2 v pre.length (cellsT (pre.map pgOf))
  hdr : Blk W (s + 2) 49 #[.slice (some ⟨s + 1, 0, none⟩) m m]
  ends : ∃ cs, Blk W (s + 1) 3 cs ∧ ∀ j, j < m → cs[j]? = some (.int .i64 ((enF m pre).1 j : Int))
  fr : Fr [] w W
theorem NwI.from_ {w : World} {m s B : Nat} (hB : w.heap.size ≤ B) : OwnFrom B (NwI w m s) := by
  rintro pre W W' row ⟨⟨v, hv, ho⟩, h2, ⟨cs, h3, h4⟩, h5⟩ hg hr
  exact ⟨⟨v, blk_grown hv hg hr, own_grown ho hg hr⟩, blk_grown h2 hg hr, ⟨cs, blk_grown h3 hg hr, h4⟩, ownFrom_fr (β := Unit) hB () W W' row h5 hg hr⟩
/-- What the append keeps. -/
theorem NwI.app {w W w'' : World} {m s : Nat} {pre : List (Nat × Nat)} {v : Value} {y : Nat × Nat} (hI : NwI w m s pre W) (hv : Blk W s 62 #[v])
    (hX : (W.alloc (.cells #[.int .i64 y.2, .int .i64 3] 61)).ownsRow w.heap.size 61 2 v pre.length (cellsT (pre.map pgOf)))
    (hg : (W.alloc (.cells #[.int .i64 y.2, .int .i64 3] 61)).grownBy w'' v.ownBlock) :
    Blk w'' s 62 #[v] ∧ Blk w'' (s + 2) 49 #[.slice (some ⟨s + 1, 0, none⟩) m m] ∧ (∃ cs, Blk w'' (s + 1) 3 cs ∧ ∀ j, j < m → cs[j]? = some (.int .i64 ((enF m pre).1 j : Int))) ∧ KeepsOthers W w'' ∧ Below w.heap.size W w'' ∧ Fr [] w w'' := by
  obtain ⟨-, h2, ⟨cs, h3, h4⟩, h5⟩ := hI
  have hbl := own_blk hX
  have hf : Fr v.ownBlock.toList (W.alloc (.cells #[.int .i64 y.2, .int .i64 3] 61)) w'' := Fr.of_own hg
  have hfW : Fr [] W (W.alloc (.cells #[.int .i64 y.2, .int .i64 3] 61)) := (Fr.refl [] W).alloc _
  have hne : ∀ {k t cs}, Blk W k t cs → t ≠ 61 → k ∉ v.ownBlock.toList := by
    intro k t cs hb ht hm
    obtain ⟨_, cs', hb'⟩ := hbl k hm
    exact ht ((hb.fr hfW (by simp)).eq hb').1
  refine ⟨(hv.fr hfW (by simp)).fr hf (hne hv (by decide)), (h2.fr hfW (by simp)).fr hf (hne h2 (by decide)), ⟨cs, (h3.fr hfW (by simp)).fr hf (hne h3 (by decide)), h4⟩, KeepsOthers.trans (KeepsOthers.of_fr hfW (by simp)) (KeepsOthers.of_fr hf (fun k hk => by obtain ⟨_, cs, hb⟩ := hbl k hk; exact ⟨61, cs, hb⟩)), ?_, (h5.trans hfW).own hX hg⟩
  exact (hfW.below h5.size (by simp)).trans (hf.below (Nat.le_trans h5.size hfW.size) (fun k hk => (hbl k hk).1))
/-- What the two stores keep. -/
theorem NwI.put {w W w'' : World} {m s : Nat} {pre : List (Nat × Nat)} {v x' : Value} {y : Nat × Nat} {cs : Array Value} (hs : w.heap.size ≤ s) (hm : 1 ≤ m) (hv : Blk w'' s 62 #[v]) (h2 : Blk w'' (s + 2) 49 #[.slice (some ⟨s + 1, 0, none⟩) m m]) (h3 : Blk w'' (s + 1) 3 cs) (h4 : ∀ j, j < m → cs[j]? = some (.int .i64 ((enF m pre).1 j : Int)))
    (hK : KeepsOthers W w'') (hB : Below w.heap.size W w'') (hF : Fr [] w w'')
    (ho : w''.ownsRow w.heap.size 61 2 x' (pre.length + 1) (cellsT (pre.map pgOf) ++ [.int .i64 y.2, .int .i64 3])) :
    let W' := (w''.setCell ⟨s, 0, none⟩ x').setCell ⟨s + 1, min y.1 (m - 1), none⟩ (.int .i64 ((pre.length + 1 : Nat) : Int))
    KeepsOthers W W' ∧ Below w.heap.size W W' ∧ NwI w m s (pre ++ [y]) W' := by
  intro W'
  have hF2 : Fr [s, s + 1] w'' W' := ((Fr.refl [s, s + 1] w'').setCell (.inl (by simp)) _).setCell (.inl (by simp)) _
  refine ⟨(hK.trans (KeepsOthers.setCell _ _ _)).trans (KeepsOthers.setCell _ _ _), (hB.trans ((Below.refl _ _).setCell hs _)).trans ((Below.refl _ _).setCell (show w.heap.size ≤ s + 1 by omega) _), ⟨x', ?_, ?_⟩, ?_, ⟨_, (h3.far (by simp) _).set_ (min y.1 (m - 1)) _, fun j hj => ?_⟩, (hF.setCell (.inr hs) _).setCell (.inr (show w.heap.size ≤ s + 1 by omega)) _⟩
  · exact (hv.set_ 0 x').far (by simp) _
  · rw [List.length_append, List.map_append]
    have : cellsT (pre.map pgOf ++ [y].map pgOf) = cellsT (pre.map pgOf) ++ [.int .i64 y.2, .int .i64 3] := by unfold cellsT; rw [List.flatMap_append]; rfl
    rw [this]
    exact own_fr ho hF2 (fun k hk cs hb => by
      simp at hk
      rcases hk with rfl | rfl
      · exact absurd (hb.eq hv).1 (by decide)
      · exact absurd (hb.eq h3).1 (by decide))
  · exact (h2.far (by simp) _).far (by simp) _
  · have hsz : ∀ j, j < m → j < cs.size := fun j hj => (Array.getElem?_eq_some_iff.1 (h4 j hj)).1
    rw [enF_snoc, enF_two, Array.getElem?_setIfInBounds]
    simp only
    by_cases hje : j = min y.1 (m - 1)
    · subst hje
      rw [if_pos rfl, if_pos rfl, if_pos (hsz _ hj)]
    · rw [if_neg (Ne.symm hje), if_neg hje, h4 j hj]
end Go.Proofs.Ytonongaakieciaa

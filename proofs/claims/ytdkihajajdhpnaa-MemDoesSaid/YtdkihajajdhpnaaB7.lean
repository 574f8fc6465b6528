/- Two memories that are alike where a table leads: what is told through it is the same, and they stay alike. -/
import Derived.Test.YtdkihajajdhpnaaB6
namespace Go.Proofs.Ytdkihajajdhpnaa
open Go.RowKit
set_option linter.unusedVariables false
/-- Does a table lead to a place? -/
def onF (t : List Pg) (j : Nat) : Prop := ∃ p ∈ t, p.f = ((j / 256 : Nat) : Int)
/-- Two memories are alike where a table leads. -/
structure Alike8 (t : List Pg) (st st' : St) : Prop where
  n : st.n = st'.n
  b : ∀ j, onF t j → st.b j = st'.b j
theorem Alike8.refl (t : List Pg) (st : St) : Alike8 t st st := ⟨rfl, fun _ _ => rfl⟩
theorem pg_mem {t : List Pg} {a : Int} {p : Pg} (h : pgAt t a = some p) : p ∈ t := by
  unfold pgAt at h
  split at h
  · cases h
  · exact List.mem_of_getElem? h
theorem loc_onF {t : List Pg} {r a : Int} (h : ch1 t r a = 0) : onF t (loc t a) := by
  unfold ch1 at h
  unfold loc
  split at h
  · omega
  · rename_i p hp
    split at h
    · omega
    · rename_i hf
      refine ⟨p, pg_mem hp, ?_⟩
      have h2 : (a % 256).toNat < 256 := by omega
      have h3 : (p.f.toNat * 256 + (a % 256).toNat) / 256 = p.f.toNat := by omega
      rw [h3]
      omega
theorem rd_alike {t : List Pg} {st st' : St} (h : Alike8 t st st') (a n r : Int) : rdR st t a n r = rdR st' t a n r := by
  unfold rdR
  rw [h.n]
  split
  · rfl
  · split
    · rfl
    · by_cases h0 : thr t r a n.toNat = 0
      · rw [if_pos h0, if_pos h0]
        congr 1
        refine List.map_congr_left (fun i hi => ?_)
        exact h.b _ (loc_onF (thr_of_zero h0 i (List.mem_range.1 hi)))
      · rw [if_neg h0, if_neg h0]
theorem ld_alike {t : List Pg} {st st' : St} (h : Alike8 t st st') (a k r : Int) : ldR st t a k r = ldR st' t a k r := by
  unfold ldR
  rw [h.n, rd_alike h]
theorem wrE_alike {t : List Pg} {st st' : St} (h : Alike8 t st st') (a : Int) (s : ByteArray) : wrE st t a s = wrE st' t a s := by
  unfold wrE
  rw [h.n]
theorem wrB_alike {t : List Pg} : ∀ (s : List UInt8) (b b' : Nat → UInt8) (a : Int), (∀ j, onF t j → b j = b' j) → ∀ j, onF t j → wrB t b a s j = wrB t b' a s j := by
  intro s
  induction s with
  | nil => intro b b' a h j hj; exact h j hj
  | cons c s ih =>
    intro b b' a h j hj
    refine ih _ _ _ (fun k hk => ?_) j hj
    unfold upd
    split
    · rfl
    · exact h k hk
theorem wr_alike {t : List Pg} {st st' : St} (h : Alike8 t st st') (a : Int) (s : ByteArray) : Alike8 t (wrS st t a s) (wrS st' t a s) := by
  unfold wrS
  rw [wrE_alike h]
  split
  · exact ⟨h.n, fun j hj => wrB_alike _ _ _ _ h.b j hj⟩
  · exact h
theorem stE_alike {t : List Pg} {st st' : St} (h : Alike8 t st st') (a k n : Int) : stE st t a k n = stE st' t a k n := by
  unfold stE
  rw [h.n, wrE_alike h]
theorem st_alike {t : List Pg} {st st' : St} (h : Alike8 t st st') (a k n : Int) : Alike8 t (stS st t a k n) (stS st' t a k n) := by
  unfold stS
  rw [h.n]
  split
  · exact h
  · split
    · exact h
    · exact wr_alike h _ _
/-- Outside a table's frames nothing is changed through it. -/
theorem wrB_off {t : List Pg} {j : Nat} : ∀ (s : List UInt8) (b : Nat → UInt8) (a : Int), (∀ i, i < s.length → ch1 t 2 (a + (i : Nat)) = 0) → ¬ onF t j → wrB t b a s j = b j := by
  intro s b a h hj
  refine wrB_out s b a (fun i hi e => hj ?_)
  rw [← e]
  exact loc_onF (h i hi)
theorem wr_off {t : List Pg} {st : St} {j : Nat} (a : Int) (s : ByteArray) (hj : ¬ onF t j) : (wrS st t a s).b j = st.b j := by
  by_cases h0 : wrE st t a s = 0
  · obtain ⟨_, _, hch, hw⟩ := wr_done h0
    rw [hw]
    exact wrB_off _ _ _ (fun i hi => hch i (by simpa using hi)) hj
  · unfold wrS
    rw [if_neg h0]
theorem st_off {t : List Pg} {st : St} {j : Nat} (a k n : Int) (hj : ¬ onF t j) : (stS st t a k n).b j = st.b j := by
  unfold stS
  split
  · rfl
  · split
    · rfl
    · exact wr_off _ _ hj
theorem stS_n {st : St} {t : List Pg} {a k n : Int} : (stS st t a k n).n = st.n := by
  unfold stS
  split
  · rfl
  · split
    · rfl
    · exact wrS_n _ _ _ _
/-- No frame is of both tables. -/
def noSh (x y : List Pg) : Prop := ∀ p ∈ x, ∀ q ∈ y, ¬ (0 ≤ p.f ∧ p.f = q.f)
theorem noSh_off {x y : List Pg} (h : noSh x y) {j : Nat} (hy : onF y j) : ¬ onF x j := by
  rintro ⟨p, hp, e⟩
  obtain ⟨q, hq, e'⟩ := hy
  exact h p hp q hq ⟨by omega, by omega⟩
theorem noSh_off' {x y : List Pg} (h : noSh x y) {j : Nat} (hx : onF x j) : ¬ onF y j := fun hy => noSh_off h hy hx
/-- Bytes that are laid into a frame of the other table are not where the one leads. -/
theorem lay_alike {x y : List Pg} {st st' : St} (h : noSh x y) (ha : Alike8 x st st') {q : Pg} (hq : q ∈ y) (h0 : 0 ≤ q.f) (s : List UInt8) (hs : s.length ≤ 256) : Alike8 x st ⟨st'.n, putL st'.b (q.f.toNat * 256) s⟩ := by
  refine ⟨ha.n, fun j hj => ?_⟩
  show st.b j = putL st'.b (q.f.toNat * 256) s j
  rw [putL_out _ _ _ _ ?_]
  · exact ha.b j hj
  · have hne : ¬ j / 256 = q.f.toNat := fun e => noSh_off' h hj ⟨q, hq, by omega⟩
    omega
end Go.Proofs.Ytdkihajajdhpnaa

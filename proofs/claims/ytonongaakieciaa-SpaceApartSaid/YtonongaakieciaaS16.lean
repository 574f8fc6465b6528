/- A space's partitions: what a load leaves; what is written through one table stays in its frames (no program). A machine's step in a space; what a program keeps. -/
import Derived.Test.YtonongaakieciaaS11
import Derived.Test.YtonongaakieciaaB5
import Derived.Test.YtonongaakieciaaS13
import Derived.Test.YtonongaakieciaaV13
import Derived.Test.YtonongaakieciaaV14
namespace Go.Proofs.Ytonongaakieciaa
open Go.RowKit
set_option linter.unusedVariables false
set_option linter.unusedSimpArgs false
set_option maxRecDepth 100000
/-- The byte of a text at a place; nought behind it. -/
def byA (t : ByteArray) (q : Nat) : UInt8 := (t.data.toList[q]?).getD 0
theorem byA_in {t : ByteArray} {q : Nat} {c : UInt8} (h : t.data.toList[q]? = some c) : byA t q = c := by unfold byA; rw [h]; rfl
theorem byA_out {t : ByteArray} {q : Nat} (h : t.size ≤ q) : byA t q = 0 := by
  have : t.data.toList.length = t.size := rfl
  unfold byA
  rw [List.getElem?_eq_none (by omega)]
  rfl
theorem zs_at {o : Nat} (h : o < 256) : zs256[o]? = some 0 := by
  unfold zs256
  rw [List.getElem?_replicate, if_pos h]
theorem clS_at {m : St} {f : Int} (hf : 0 ≤ f ∧ f < m.n) {o : Nat} (ho : o < 256) : (clS m f).b (f.toNat * 256 + o) = 0 := by
  have e : clE m.n f = 0 := if_neg (by omega)
  unfold clS
  rw [if_pos e]
  exact putL_in _ _ _ _ _ (zs_at ho)
theorem clS_far {m : St} {f : Int} {k : Nat} (h : k < f.toNat * 256 ∨ f.toNat * 256 + 256 ≤ k) : (clS m f).b k = m.b k := by
  unfold clS
  split
  · exact putL_out _ _ _ _ (by rw [zs256_len]; exact h)
  · rfl
theorem layS_far {m : St} {f : Int} {s : ByteArray} {k : Nat} (h : k < f.toNat * 256 ∨ f.toNat * 256 + 256 ≤ k) : (layS m f 0 s).b k = m.b k := by
  unfold layS
  split
  · next e =>
    have hs : s.size ≤ 256 := by
      unfold layE at e
      split at e
      · omega
      · split at e
        · omega
        · omega
    have : s.data.toList.length = s.size := rfl
    exact putL_out _ _ _ _ (by simp only [Int.toNat_zero]; omega)
  · rfl
theorem layS_at {m : St} {f : Int} (hf : 0 ≤ f ∧ f < m.n) {s : ByteArray} (hs : s.size ≤ 256) {o : Nat} (ho : o < 256) : (layS m f 0 s).b (f.toNat * 256 + o) = if o < s.size then byA s o else m.b (f.toNat * 256 + o) := by
  have e : layE m.n f 0 s = 0 := by
    unfold layE
    rw [if_neg (by omega), if_neg (by omega)]
  have hl : s.data.toList.length = s.size := rfl
  unfold layS
  rw [if_pos e]
  simp only [Int.toNat_zero, Nat.add_zero]
  split
  · next h =>
    obtain ⟨c, hc⟩ : ∃ c, s.data.toList[o]? = some c := ⟨_, List.getElem?_eq_getElem (by omega)⟩
    rw [putL_in _ _ _ _ _ hc, byA_in hc]
  · next h => exact putL_out _ _ _ _ (by omega)
theorem ldO_at {m : St} {f : Int} (hf : 0 ≤ f ∧ f < m.n) {t : ByteArray} {i o : Nat} (ho : o < 256) : (ldO m f t i).b (f.toNat * 256 + o) = byA t (256 * i + o) := by
  unfold ldO
  split
  · next h =>
    have hn : (clS m f).n = m.n := by unfold clS; split <;> rfl
    have hz : (t.extract (256 * i) (min t.size (256 * i + 256))).size = min t.size (256 * i + 256) - 256 * i := by rw [ByteArray.size_extract]; omega
    rw [layS_at (m := clS m f) (by rw [hn]; exact hf) (by omega) ho]
    split
    · next h2 =>
      have e := ext_at t (256 * i) (min t.size (256 * i + 256)) o
      rw [if_pos (by omega)] at e
      unfold byA
      rw [e]
    · next h2 => rw [clS_at hf ho, byA_out (by omega)]
  · next h => rw [clS_at hf ho, byA_out (by omega)]
theorem ldO_far {m : St} {f : Int} {t : ByteArray} {i k : Nat} (h : k < f.toNat * 256 ∨ f.toNat * 256 + 256 ≤ k) : (ldO m f t i).b k = m.b k := by
  unfold ldO
  split
  · rw [layS_far h, clS_far h]
  · rw [clS_far h]
/-- What lies in the frames of a table that was loaded. -/
theorem ldM_at {st : St} {tb : List Pg} (ha : apart tb) (hp : ∀ p ∈ tb, 0 ≤ p.f ∧ p.f < st.n) (t : ByteArray) : ∀ k, k ≤ tb.length → ∀ q, q < 256 * k → (ldM st tb t k).b (loc tb (q : Int)) = byA t q := by
  intro k
  induction k with
  | zero => intro _ q h; omega
  | succ k ih =>
    intro hk q hq
    obtain ⟨p, hpk⟩ : ∃ p, tb[k]? = some p := ⟨_, List.getElem?_eq_getElem (by omega)⟩
    have hm := hp p (List.mem_of_getElem? hpk)
    have hn := ldM_n st tb t k
    show (ldO (ldM st tb t k) ((tb[k]?).getD ⟨0, 0⟩).f t k).b _ = _
    rw [hpk]
    simp only [Option.getD_some]
    by_cases h : q < 256 * k
    · obtain ⟨p', hp'⟩ : ∃ p, tb[q / 256]? = some p := ⟨_, List.getElem?_eq_getElem (by omega)⟩
      have hm' := hp p' (List.mem_of_getElem? hp')
      have hne : p'.f ≠ p.f := fun e => by have := ha _ _ _ _ hp' hpk e; omega
      rw [loc_at hp', ldO_far (by omega), ← loc_at hp']
      exact ih (by omega) q h
    · have hq' : q / 256 = k := by omega
      rw [loc_at (p := p) (by rw [hq']; exact hpk), ldO_at (by rw [hn]; exact hm) (by omega)]
      congr 1
      omega
/-- What lies elsewhere. -/
theorem ldM_far {st : St} {tb : List Pg} (t : ByteArray) {j : Nat} (hj : ∀ p ∈ tb, j < p.f.toNat * 256 ∨ p.f.toNat * 256 + 256 ≤ j) : ∀ k, k ≤ tb.length → (ldM st tb t k).b j = st.b j := by
  intro k
  induction k with
  | zero => intro _; rfl
  | succ k ih =>
    intro hk
    obtain ⟨p, hpk⟩ : ∃ p, tb[k]? = some p := ⟨_, List.getElem?_eq_getElem (by omega)⟩
    show (ldO (ldM st tb t k) ((tb[k]?).getD ⟨0, 0⟩).f t k).b _ = _
    rw [hpk]
    simp only [Option.getD_some]
    rw [ldO_far (hj p (List.mem_of_getElem? hpk))]
    exact ih (by omega)
/-- Only bytes that a table lets be written have turned. -/
structure Wr (t : List Pg) (st st' : St) : Prop where
  n : st'.n = st.n
  b : ∀ k, st'.b k ≠ st.b k → ∃ q : Nat, q < t.length * 256 ∧ loc t (q : Int) = k ∧ ch1 t 2 (q : Int) = 0
theorem Wr.refl (t : List Pg) (st : St) : Wr t st st := ⟨rfl, fun k h => absurd rfl h⟩
theorem Wr.trans {t : List Pg} {st st' st'' : St} (h : Wr t st st') (h' : Wr t st' st'') : Wr t st st'' :=
  ⟨h'.n.trans h.n, fun k hk => by
    by_cases e : st''.b k = st'.b k
    · exact h.b k (fun e' => hk (e.trans e'))
    · exact h'.b k e⟩
theorem Wr.wrS (st : St) (t : List Pg) (a : Int) (s : ByteArray) : Wr t st (wrS st t a s) := by
  by_cases h : wrE st t a s = 0
  · obtain ⟨hT, hs, hc, -⟩ := wr_done h
    have e : Go.Proofs.Ytonongaakieciaa.wrS st t a s = ⟨st.n, wrB t st.b a s.data.toList⟩ := by unfold Go.Proofs.Ytonongaakieciaa.wrS; rw [if_pos h]
    rw [e]
    refine ⟨rfl, fun k hk => ?_⟩
    apply Classical.byContradiction
    intro hno
    apply hk
    refine wrB_out _ _ _ (fun j hj hl => hno ?_)
    have hj' : j < s.size := hj
    obtain ⟨q, p, hq, hq2, -⟩ := ch1_in (hc j hj')
    exact ⟨q, hq2, by rw [← hq]; exact hl, by rw [← hq]; exact hc j hj'⟩
  · have e : Go.Proofs.Ytonongaakieciaa.wrS st t a s = st := by unfold Go.Proofs.Ytonongaakieciaa.wrS; rw [if_neg h]
    rw [e]
    exact Wr.refl t st
theorem Wr.stS (st : St) (t : List Pg) (a k n : Int) : Wr t st (stS st t a k n) := by
  unfold Go.Proofs.Ytonongaakieciaa.stS
  split
  · exact Wr.refl t st
  · split
    · exact Wr.refl t st
    · exact Wr.wrS ..
section
variable {x : Sp} (h : SpOk x)
include h
theorem SpOk.ch1q {k : Nat} {t : List Pg} (hk : x.tb[k]? = some t) {q : Nat} (hq : q < 256 * t.length) : Go.Proofs.Ytonongaakieciaa.ch1 t 1 (q : Int) = 0 := by
  obtain ⟨p, hp⟩ : ∃ p, t[q / 256]? = some p := ⟨_, List.getElem?_eq_getElem (by omega)⟩
  have hm := h.pg k t hk p (List.mem_of_getElem? hp)
  rw [ch1_at hp, if_neg (by omega)]
  rcases hm.2 with hr | hr
  · rw [hr, if_neg bits_31]
  · rw [hr, if_neg bits_51]
/-- What is written through one table leaves the other partitions. -/
theorem SpOk.others {st' : St} {i k : Nat} {t t' : List Pg} (hi : x.tb[i]? = some t) (hk : x.tb[k]? = some t') (hik : k ≠ i) (hw : Wr t x.st st') {q : Nat} (hq : q < 256 * t'.length) : st'.b (loc t' (q : Int)) = x.st.b (loc t' (q : Int)) := by
  apply Classical.byContradiction
  intro hne
  obtain ⟨q', hq', hl, hc⟩ := hw.b _ hne
  obtain ⟨r, p, hr, hr2, hp, f0, -, e⟩ := ch1_in hc
  obtain ⟨r', p', hr', hr2', hp', f0', -, e'⟩ := ch1_in (h.ch1q hk hq)
  rw [e, e'] at hl
  exact hik (h.ap k t' _ p' i t _ p hk hp' hi hp (by omega)).1
/-- What may only be read and run stays. -/
theorem SpOk.kept {st' : St} {i : Nat} {t : List Pg} (hi : x.tb[i]? = some t) (hw : Wr t x.st st') {q : Nat} (hq : q < 256 * t.length) {p : Pg} (hp : t[q / 256]? = some p) (hr : p.r = 5) : st'.b (loc t (q : Int)) = x.st.b (loc t (q : Int)) := by
  apply Classical.byContradiction
  intro hne
  obtain ⟨q', hq', hl, hc⟩ := hw.b _ hne
  have e := loc_inj (h.apart hi) hc (h.ch1q hi hq) hl
  have e2 : q' = q := by omega
  subst e2
  rw [ch1_at hp, if_neg (by have := (h.pg i t hi p (List.mem_of_getElem? hp)).1; omega), hr] at hc
  revert hc
  decide
end
end Go.Proofs.Ytonongaakieciaa
namespace Go.Proofs.Ytonongaakieciaa
open Go.RowKit
set_option linter.unusedVariables false
set_option linter.unusedSimpArgs false
set_option maxRecDepth 100000
theorem Wr.touchV (k : Nat) (y : Vm) (st : St) (t : List Pg) (a : Nat) (ad wd nx : Int) : Wr t st (touchV k y st t a ad wd nx).2.2 := by
  unfold Go.Proofs.Ytonongaakieciaa.touchV
  split
  · split <;> exact Wr.refl t st
  · split
    · exact Wr.refl t st
    · exact Wr.stS ..
theorem Wr.stepI (y : Vm) (st : St) (t : List Pg) (k a b : Nat) (m : Int) : Wr t st (stepI y st t k a b m).2.2 := by
  unfold Go.Proofs.Ytonongaakieciaa.stepI
  split
  all_goals first
    | exact Wr.refl t st
    | exact Wr.touchV ..
    | (split <;> exact Wr.refl t st)
theorem Wr.stepV (y : Vm) (st : St) (t : List Pg) : Wr t st (stepV y st t).2.2 := by
  unfold Go.Proofs.Ytonongaakieciaa.stepV
  split
  · exact Wr.refl t st
  · exact Wr.stepI ..
/-- The memory turns, and a machine. -/
theorem SpAt.turnV {w w' : World} {s p F g v : Nat} {x : Sp} {cs : Array Value} (h : SpAt w s p F g x) (hv : Blk w v 134 cs) {st' : St} (hm : MemAt w' p F st') (hf : Fr [v, F] w w') : SpAt w' s p F g ⟨st', x.tb⟩ := by
  obtain ⟨e1, e2, e3, e4, e5, e6⟩ := h.ne
  obtain ⟨⟨c1, h1⟩, ⟨c2, h2⟩, ⟨c3, h3⟩, ⟨c4, h4⟩⟩ := h.blks
  have n1 : s ≠ v := h1.ne_type hv (by decide)
  have n4 : g ≠ v := h4.ne_type hv (by decide)
  have hN : NoT 61 w [v, F] := NoT.app (S := [v]) (hv.not (by decide)) (h3.not (by decide))
  obtain ⟨⟨cap, hb, hc⟩, -, ⟨cs, hg, hr⟩, n1', n2, n3⟩ := h
  refine ⟨⟨cap, hb.fr hf (by simp; omega), hc⟩, hm, ⟨cs, hg.fr hf (by simp; omega), fun i t hi => ?_⟩, n1', n2, n3⟩
  obtain ⟨vv, k1, k2⟩ := hr i t hi
  exact ⟨vv, k1, k2.fr hf hN⟩
/-- A space and a machine that were made since w0. -/
structure Sm (w0 w : World) (s p F g v : Nat) (x : Sp) (y : Vm) : Prop where
  d : Sd w0 w s p F g x
  vm : VmAt w v y
  gv : w0.heap.size ≤ v
section
variable {w0 w w' : World} {s p F g v : Nat} {x : Sp} {y : Vm}
theorem Sm.to (h : Sm w0 w s p F g v x y) (hf : Fr [] w w') : Sm w0 w' s p F g v x y := ⟨h.d.to hf, h.vm.fr hf (by simp), h.gv⟩
theorem Sm.ne (h : Sm w0 w s p F g v x y) : s ≠ v ∧ p ≠ v ∧ F ≠ v ∧ g ≠ v := by
  obtain ⟨⟨c1, h1⟩, ⟨c2, h2⟩, ⟨c3, h3⟩, ⟨c4, h4⟩⟩ := h.d.at_.blks
  exact ⟨h1.ne_type h.vm.hb (by decide), h2.ne_type h.vm.hb (by decide), h3.ne_type h.vm.hb (by decide), h4.ne_type h.vm.hb (by decide)⟩
theorem Sm.turn {x' : Sp} (h : Sm w0 w s p F g v x y) (ht : SpT s p F g w x' w') (hok : SpOk x') : Sm w0 w' s p F g v x' y := by
  obtain ⟨n1, n2, n3, n4⟩ := h.ne
  exact ⟨h.d.turn ht hok, h.vm.fr ht.2 (by simp; omega), h.gv⟩
theorem Sm.out (h : Sm w0 w s p F g v x y) (i a : Int) (t : ByteArray) (ha : a ≤ 9223372036854775807) : Calls Try.prog 19 #[ptr s, .int .i64 i, .int .i64 a, .string t] w fun e w' => e = .returned (.int .i64 (outE x i a t)) ∧ Sm w0 w' s p F g v (outS x i a t) y :=
  (Out_any s p F g x i a t w h.d.at_ ha).mono fun e w' ⟨he, ht⟩ => ⟨he, h.turn ht (h.d.ok.out i a t)⟩
theorem Sm.all (h : Sm w0 w s p F g v x y) {i : Int} (hi : hasP x i = true) : Calls Try.prog 18 #[ptr s, .int .i64 i] w fun e w' => e = .returned (.string (allS x i)) ∧ Sm w0 w' s p F g v x y :=
  (all_any s p F g x i w h.d.at_ h.d.ok hi).mono fun e w' ⟨he, hf⟩ => ⟨he, h.to hf⟩
theorem Sm.mem (h : Sm w0 w s p F g v x y) : Calls Try.prog 52 #[ptr s] w fun e w' => e = .returned (ptr p) ∧ w = w' := Memory_any s p F g x w h.d.at_
theorem Sm.table (h : Sm w0 w s p F g v x y) {i : Int} (hi : hasP x i = true) : Calls Try.prog 51 #[ptr s, .int .i64 i] w fun e w' => ∃ b, e = .returned (.slice (some ⟨b, 0, none⟩) (tbOf x i).length (tbOf x i).length) ∧ PB w' b (tbOf x i) ∧ Sm w0 w' s p F g v x y :=
  (Table_any s p F g x i w h.d.at_ h.d.ok.n1).mono fun e w' hT => by
    rcases hT with ⟨h0, -⟩ | ⟨-, b, he, hB, hf, hb⟩
    · exact absurd (h0.symm.trans hi) (by decide)
    · exact ⟨b, he, hB, h.to hf⟩
/-- A step through a partition's own table. -/
theorem Sm.step (h : Sm w0 w s p F g v x y) {i : Int} (hi : hasP x i = true) {b : Nat} (hB : PB w b (tbOf x i)) : Calls Try.prog 34 #[ptr v, ptr p, .slice (some ⟨b, 0, none⟩) (tbOf x i).length (tbOf x i).length] w fun e w' =>
    ∃ (k n : Int) (st' : St) (y' : Vm), e = .returned (.agg #[.int .i64 k, .int .i64 n]) ∧ Wr (tbOf x i) x.st st' ∧ Sm w0 w' s p F g v ⟨st', x.tb⟩ y' := by
  obtain ⟨k, t, rfl, hk⟩ := hasP_some hi
  obtain ⟨-, hto⟩ := tbOf_some hk
  have hl := h.d.at_.n3 k t hk
  rw [hto] at hB ⊢
  obtain ⟨A, c, e, -, -, -, b', cb, mk, hb', hT⟩ := hB.tb (cap := t.length) (Nat.le_refl _) (by simp only [maxLen]; omega)
  have hbb : b' < w.heap.size := (Array.getElem?_eq_some_iff.1 hb').1
  refine (Step_any v p F b' t.length t.length y x.st _ t w h.vm h.d.at_.mem hT hbb).mono fun e w' ⟨he, hv, hm, hf⟩ => ?_
  have hW := Wr.stepV y x.st t
  refine ⟨_, _, (stepV y x.st t).2.2, _, he, hW, ⟨h.d.at_.turnV h.vm.hb hm hf, h.d.ok.st_ hW.n, ?_, h.d.gF, h.d.gg⟩, hv, h.gv⟩
  exact h.d.fr.step hf (fun k hk => by
    simp at hk
    rcases hk with rfl | rfl
    · exact .inr h.gv
    · exact .inr h.d.gF)
end
theorem Sd.machine {w0 w : World} {s p F g : Nat} {x : Sp} (h : Sd w0 w s p F g x) : Calls Try.prog 30 #[] w fun e w' => ∃ v, e = .returned (ptr v) ∧ Sm w0 w' s p F g v x vm0 :=
  (vNew_any w).mono fun e w' ⟨he, hv, hf⟩ => ⟨_, he, h.to hf, hv, h.fr.size⟩
/-- An answer, of three numbers of its own. -/
theorem Sm.answer {w0 w : World} {s p F g v : Nat} {x : Sp} {y : Vm} (h : Sm w0 w s p F g v x y) (b : Nat) (l0 l1 l2 : Int) (hb : Blk w b 3 #[.int .i64 l0, .int .i64 l1, .int .i64 l2]) : Calls Try.prog 33 #[ptr v, .slice (some ⟨b, 0, none⟩) 3 3] w fun e w' => ∃ (c : Int) (y' : Vm), e = .returned (.int .i64 c) ∧ Sm w0 w' s p F g v x y' := by
  obtain ⟨n1, n2, n3, n4⟩ := h.ne
  by_cases hw : y.wt = true
  · refine (vAnswer_yes h.vm b 0 3 (fun j => if j = 0 then l0 else if j = 1 then l1 else l2) hw (fun j hj => ?_) (Blk.ne_type hb h.vm.hb (by decide))).mono fun e w' ⟨he, hv, hf⟩ => ?_
    · rw [Nat.zero_add, hb.cell]
      rcases (by omega : j = 0 ∨ j = 1 ∨ j = 2) with rfl | rfl | rfl <;> rfl
    · refine ⟨_, _, he, ⟨h.d.at_.fr hf (by simp; omega) (by simp; omega) (by simp; omega) (by simp; omega) (h.vm.hb.not (by decide)), h.d.ok, ?_, h.d.gF, h.d.gg⟩, hv, h.gv⟩
      exact h.d.fr.step hf (fun k hk => by
        simp at hk
        subst hk
        exact .inr h.gv)
  · refine (vAnswer_no h.vm _ 3 3 (.inl (by simpa using hw))).mono fun e w' ⟨he, hf⟩ => ?_
    subst hf
    exact ⟨_, _, he, h⟩
/-- What a program keeps of its own bytes. -/
structure Keep (T : List (List Pg)) (k : Nat) (t : List Pg) (pr : ByteArray) (x : Sp) : Prop where
  tb : x.tb = T
  at_ : T[k]? = some t
  r5 : ∀ (j : Nat) (p : Pg), t[j]? = some p → 256 * j < pr.size → p.r = 5
  sz : pr.size ≤ 256 * t.length
  by_ : ∀ q, q < pr.size → x.st.b (loc t (q : Int)) = byA pr q
section
variable {T : List (List Pg)} {k : Nat} {t : List Pg} {pr : ByteArray} {x : Sp}
theorem Keep.has (h : Keep T k t pr x) : hasP x (k : Int) = true ∧ tbOf x (k : Int) = t := tbOf_some (by rw [h.tb]; exact h.at_)
theorem Keep.wr (h : Keep T k t pr x) (hok : SpOk x) {st' : St} (hw : Wr t x.st st') : Keep T k t pr ⟨st', x.tb⟩ := by
  refine ⟨h.tb, h.at_, h.r5, h.sz, fun q hq => ?_⟩
  obtain ⟨p, hp⟩ : ∃ p, t[q / 256]? = some p := ⟨_, List.getElem?_eq_getElem (by have := h.sz; omega)⟩
  have hs := h.sz
  rw [hok.kept (by rw [h.tb]; exact h.at_) hw (by omega) hp (h.r5 _ p hp (by omega))]
  exact h.by_ q hq
theorem Keep.out (h : Keep T k t pr x) (hok : SpOk x) (a : Int) (s : ByteArray) : Keep T k t pr (outS x (k : Int) a s) := by
  unfold outS
  split
  · exact h
  · rw [h.has.2]
    exact h.wr hok (Wr.wrS ..)
theorem Keep.fine (h : Keep T k t pr x) : (allS x (k : Int)).size = 256 * t.length ∧ (allS x (k : Int)).extract 0 pr.size = pr := by
  obtain ⟨-, hto⟩ := h.has
  have hs := h.sz
  have z : (allS x (k : Int)).size = 256 * t.length := by rw [allS_size, hto]
  refine ⟨z, ba_ext fun j => ?_⟩
  have hl : pr.data.toList.length = pr.size := rfl
  rw [ext_at]
  by_cases hj : j < pr.size - 0
  · rw [if_pos hj]
    have e : (allS x (k : Int)).data.toList[0 + j]? = some (x.st.b (loc t ((0 + j : Nat) : Int))) := by
      unfold allS
      rw [hto]
      exact allL_at (by omega)
    rw [e, Nat.zero_add, h.by_ j (by omega)]
    obtain ⟨c, hc⟩ : ∃ c, pr.data.toList[j]? = some c := ⟨_, List.getElem?_eq_getElem (by omega)⟩
    rw [byA_in hc, hc]
  · rw [if_neg hj, List.getElem?_eq_none (by omega)]
end
theorem okT_f {n : Nat} {t : List Pg} (h : okT n t = true) (hp : ∀ p ∈ t, 0 ≤ p.f) : ∀ p ∈ t, 0 ≤ p.f ∧ p.f < n := fun p hm => by
  obtain ⟨i, hi⟩ := List.getElem?_of_mem hm
  exact ⟨hp p hm, (okT_at h hi).2.1⟩
/-- Behind a load. -/
theorem ld_keep {x : Sp} (hok : SpOk x) {k : Nat} {t : List Pg} (hk : x.tb[k]? = some t) {pr : ByteArray} (hs : pr.size ≤ t.length * 256) :
    ldE x (k : Int) pr = 0 ∧ ∃ t', t'.length = t.length ∧ Keep (x.tb.set k t') k t' pr (ldS x (k : Int) pr) ∧ allS (ldS x (k : Int) pr) (k : Int) = pr ++ zeros (256 * t.length - pr.size) := by
  obtain ⟨hp, hto⟩ := tbOf_some hk
  have e : ldE x (k : Int) pr = 0 := by
    unfold ldE
    rw [if_neg (by rw [hp]; simp), hto, if_neg (by omega)]
  have hkl := (List.getElem?_eq_some_iff.1 hk).1
  have eS : ldS x (k : Int) pr = ⟨ldM x.st t pr t.length, x.tb.set k (ldT t pr t.length)⟩ := by
    unfold ldS
    rw [if_neg (by omega), hto, Int.toNat_natCast]
  have hT : ∀ (j : Nat) (p : Pg), (ldT t pr t.length)[j]? = some p → ∃ q, t[j]? = some q ∧ p = pgL pr j q := by
    intro j p hj
    unfold ldT at hj
    rw [List.getElem?_mapIdx] at hj
    cases hq : t[j]? with
    | none => rw [hq] at hj; cases hj
    | some q =>
      rw [hq] at hj
      have hjl := (List.getElem?_eq_some_iff.1 hq).1
      simp only [Option.map_some] at hj
      rw [if_pos hjl] at hj
      injection hj with hj
      exact ⟨q, rfl, hj.symm⟩
  have hloc : ∀ q, q < 256 * t.length → loc (ldT t pr t.length) (q : Int) = loc t (q : Int) := by
    intro q hq
    obtain ⟨p, hp⟩ : ∃ p, (ldT t pr t.length)[q / 256]? = some p := ⟨_, List.getElem?_eq_getElem (by rw [ldT_len]; omega)⟩
    obtain ⟨p', hp', rfl⟩ := hT _ _ hp
    rw [loc_at hp, loc_at hp']
    rfl
  have hb : ∀ q, q < 256 * t.length → (ldM x.st t pr t.length).b (loc (ldT t pr t.length) (q : Int)) = byA pr q := fun q hq => by
    rw [hloc q hq]
    exact ldM_at (hok.apart hk) (okT_f (hok.ok k t hk) (fun p hm => (hok.pg k t hk p hm).1)) pr t.length (Nat.le_refl _) q hq
  have hK : Keep (x.tb.set k (ldT t pr t.length)) k (ldT t pr t.length) pr (ldS x (k : Int) pr) := by
    rw [eS]
    refine ⟨rfl, by rw [List.getElem?_set, if_pos rfl, if_pos hkl], fun j p hj h5 => ?_, by rw [ldT_len]; omega, fun q hq => hb q (by omega)⟩
    obtain ⟨p', hp', rfl⟩ := hT _ _ hj
    unfold pgL
    simp only
    rw [if_pos h5]
  refine ⟨e, _, ldT_len .., hK, ba_ext fun j => ?_⟩
  obtain ⟨-, hto2⟩ := hK.has
  have hl : pr.data.toList.length = pr.size := rfl
  have hz : (zeros (256 * t.length - pr.size)).data.toList = List.replicate (256 * t.length - pr.size) 0 := rfl
  have happ : (pr ++ zeros (256 * t.length - pr.size)).data.toList = pr.data.toList ++ List.replicate (256 * t.length - pr.size) 0 := by
    rw [← hz]
    simp
  rw [happ]
  by_cases hj : j < 256 * t.length
  · have e2 : (allS (ldS x (k : Int) pr) (k : Int)).data.toList[j]? = some (byA pr j) := by
      unfold allS
      rw [hto2]
      have := allL_at (st := (ldS x (k : Int) pr).st) (t := ldT t pr t.length) (q := j) (by rw [ldT_len]; exact hj)
      rw [this]
      have e3 : (ldS x (k : Int) pr).st = ldM x.st t pr t.length := by rw [eS]
      rw [e3, hb j hj]
    rw [e2, List.getElem?_append]
    by_cases hjp : j < pr.size
    · rw [if_pos (by omega)]
      obtain ⟨c, hc⟩ : ∃ c, pr.data.toList[j]? = some c := ⟨_, List.getElem?_eq_getElem (by omega)⟩
      rw [byA_in hc, hc]
    · rw [if_neg (by omega), List.getElem?_replicate, if_pos (by omega), byA_out (by omega)]
  · rw [List.getElem?_eq_none (l := pr.data.toList ++ _) (by rw [List.length_append, List.length_replicate, hl]; omega)]
    have hsz : (allS (ldS x (k : Int) pr) (k : Int)).size = 256 * t.length := by rw [hK.fine.1, ldT_len]
    have hsz2 : (allS (ldS x (k : Int) pr) (k : Int)).data.toList.length = (allS (ldS x (k : Int) pr) (k : Int)).size := rfl
    exact List.getElem?_eq_none (by rw [hsz2, hsz]; omega)
end Go.Proofs.Ytonongaakieciaa

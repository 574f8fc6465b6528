/- A map of numbers to numbers that the call made: which keys it has. A space's partitions are apart (no program); a map beside a space. SpaceApart, walked. -/
import Derived.Test.YtonongaakieciaaS2
import Derived.Maps.StringElems
import Derived.Maps.OwnOps
import Derived.Test.YtonongaakieciaaS17
import Derived.Deep.DeepCutAuto
import Derived.Deep.CutBlock
import Derived.Deep.LoopGhost
import Derived.BigQuiet
import Derived.Deep.QuietTactic
namespace Go.Proofs.Ytonongaakieciaa
open Go.RowKit Go.Maps
set_option linter.unusedVariables false
theorem law3 : Keyed Try.prog 3 := int_keyed Try.underlying3
theorem zero3 (w : World) : (zeroValue 3).run Try.prog w = .ok (.int .i64 0) w := by kernel_rfl
theorem plain3 {H : Type} {a : Int} (h : (Lit.int .i64 a).wf = true) : plainElem (H := H) Try.prog 3 (.int .i64 a) = some (.lit (.int .i64 a), []) := plainElem_int Try.underlying3 h
theorem wfk {k : Nat} (h : k ≤ 4096) : (Lit.int .i64 (k : Int)).wf = true := by
  refine WalkArith.wf_i64 ?_
  omega
theorem keyk {k : Nat} (h : k ≤ 4096) : keyOf Try.prog 3 (.int .i64 (k : Int)) = some (.int .i64 (k : Int)) := keyOf_int_mk Try.underlying3 (wfk h)
/-- Block m is a map whose keys, all below n, are those of u. -/
def IMap (w : World) (m n : Nat) (u : Nat → Bool) : Prop :=
  n ≤ 4096 ∧ ∃ D : DataW Unit, w.ownsMap Try.prog 3 (plainElem Try.prog 3) m n D ∧ (∀ kl, Maps.has D kl = true → ∃ k, k < n ∧ kl = .int .i64 (k : Int)) ∧ ∀ k, Maps.has D (.int .i64 ((k : Nat) : Int)) = u k
theorem IMap.lt {w : World} {m n : Nat} {u : Nat → Bool} (h : IMap w m n u) : m < w.heap.size := by
  obtain ⟨hn, D, ho, -⟩ := h
  exact ho.lt
theorem IMap.fr {w w' : World} {S : List Nat} {m n : Nat} {u : Nat → Bool} (h : IMap w m n u) (hf : Fr S w w') (hm : m ∉ S) : IMap w' m n u := by
  obtain ⟨hn, D, ho, h1⟩ := h
  refine ⟨hn, D, ?_, h1⟩
  have hb := hf.block m ho.lt hm
  obtain ⟨es, clock, hb0, r⟩ := ho
  exact ⟨es, clock, hb.trans hb0, r⟩
theorem IMap.not_cells {w : World} {m n : Nat} {u : Nat → Bool} (h : IMap w m n u) {cs : Array Value} {t : TypeId} {mk : Nat × Nat} : w.heap[m]? ≠ some (.cells cs t mk) := by
  obtain ⟨hn, D, ⟨es, clock, hb, -⟩, -⟩ := h
  rw [hb]
  intro e
  cases e
theorem IMap.made {w : World} {n : Nat} (hn : n ≤ 4096) : IMap (w.alloc (.map #[] 0)) w.heap.size n (fun _ => false) :=
  ⟨hn, .map [], (World.ownsMap_made w _ 3 _).mono (Nat.zero_le _), fun kl h => (by cases h), fun k => rfl⟩
open Classical in
/-- Keys that differ, all below n, are n at most. -/
theorem few_keys : ∀ (n : Nat) (l : List Lit), l.Pairwise (fun a b => a ≠ b) → (∀ a ∈ l, ∃ k, k < n ∧ a = .int .i64 ((k : Nat) : Int)) → l.length ≤ n
  | 0, [], _, _ => Nat.le_refl _
  | 0, a :: l, _, h => by
    obtain ⟨k, hk, -⟩ := h a (by simp)
    omega
  | n + 1, l, hp, h => by
    have h1 := few_keys n (l.filter fun a => !decide (a = .int .i64 ((n : Nat) : Int))) (hp.filter _) (fun a ha => by
      obtain ⟨ha1, ha2⟩ := List.mem_filter.1 ha
      obtain ⟨k, hk, rfl⟩ := h a ha1
      refine ⟨k, ?_, rfl⟩
      by_cases e : k = n
      · subst e
        simp at ha2
      · omega)
    have h2 : ∀ (l : List Lit) (x : Lit), l.Pairwise (fun a b => a ≠ b) → l.length ≤ (l.filter fun a => !decide (a = x)).length + 1 := by
      intro l x hp
      induction l with
      | nil => simp
      | cons a l ih =>
        obtain ⟨p1, p2⟩ := List.pairwise_cons.1 hp
        by_cases e : a = x
        · subst e
          have h3 : (l.filter fun b => !decide (b = a)) = l := List.filter_eq_self.2 (fun b hb => by
            have := p1 b hb
            simp [Ne.symm this])
          rw [List.filter_cons]
          simp [h3]
        · have := ih p2
          rw [List.filter_cons]
          simp [e]
          exact this
    have := h2 l (.int .i64 ((n : Nat) : Int)) hp
    omega
theorem size_few {w : World} {b n m : Nat} {D : DataW Unit} (h : w.ownsMap Try.prog 3 (plainElem Try.prog 3) b m D) (hk : ∀ kl, Maps.has D kl = true → ∃ k, k < n ∧ kl = .int .i64 (k : Int)) : w.ownsMap Try.prog 3 (plainElem Try.prog 3) b n D := by
  obtain ⟨es, hD, hp, hkl⟩ := h.entries law3
  have h1 := few_keys n (es.map (·.1)) (by
    rw [List.pairwise_map]
    exact hp) (fun a ha => by
    obtain ⟨p, hp1, rfl⟩ := List.mem_map.1 ha
    refine hk p.1 ?_
    rw [hD]
    exact List.any_eq_true.2 ⟨p, hp1, WideAt.sameKey_self (hkl p hp1)⟩)
  rw [List.length_map] at h1
  obtain ⟨ms, clock, hb, F, hs, hD'⟩ := h
  refine ⟨ms, clock, hb, F, ?_, hD'⟩
  rw [hD] at hD'
  injection hD' with e
  rw [e, length_sorted, List.length_map] at h1
  simpa using h1
theorem lit_ne {j k : Nat} (h : j ≠ k) : (Lit.int .i64 (j : Int)) ≠ .int .i64 (k : Int) := by
  intro e
  injection e with _ e
  omega
theorem keyLit (k : Int) : WideAt.IsKeyLit (.int .i64 k) := by trivial
theorem IMap.put {w : World} {m n : Nat} {u : Nat → Bool} (h : IMap w m n u) {k : Nat} (hk : k < n) {a : Int} (ha : (Lit.int .i64 a).wf = true) :
    ∃ w', (Instr.mapUpdate 97 (.map (some m)) (.int .i64 (k : Int)) (.int .i64 a)).run Try.prog w = .ok () w' ∧ IMap w' m n (fun j => if j = k then true else u j) ∧ Fr [m] w w' := by
  obtain ⟨hn, D, ho, h1, h2⟩ := h
  obtain ⟨w', hr, ho', ht'⟩ := ho.store law3 Try.underlying97 (by unfold maxLen; omega) (keyk (by omega : k ≤ 4096)) (plain3 ha)
  have hD := ho.isMap
  have hkeys : ∀ kl, Maps.has (D.put (.int .i64 (k : Int)) (.lit (.int .i64 a))) kl = true → ∃ k, k < n ∧ kl = .int .i64 (k : Int) := by
    intro kl hkl
    by_cases e : kl = .int .i64 (k : Int)
    · exact ⟨k, hk, e⟩
    · rw [has_put_other e] at hkl
      exact h1 kl hkl
  refine ⟨w', hr, ⟨hn, _, size_few ho' hkeys, hkeys, fun j => ?_⟩, ?_⟩
  · by_cases e : j = k
    · subst e
      rw [has_put_same hD (keyLit _)]
      simp
    · rw [has_put_other (lit_ne e), h2 j]
      simp only [if_neg e]
  · exact Fr.of_grown ht'.grown (fun i hi => by cases hi; simp)
theorem IMap.look_none {w : World} {m n : Nat} {u : Nat → Bool} (h : IMap w m n u) {k : Nat} (hkn : k < n) (hk : u k = false) :
    (Instr.lookup 97 (.map (some m)) (.int .i64 (k : Int)) true).run Try.prog w = .ok (.tuple #[.int .i64 0, .bool false]) w := by
  obtain ⟨hn, D, ho, h1, h2⟩ := h
  have hh : Maps.has D (.int .i64 ((k : Nat) : Int)) = false := by rw [h2, hk]
  have hk4 : k ≤ 4096 := by omega
  have hz := plain3 (H := Unit) (a := 0) (by decide)
  have hkk := keyk hk4
  obtain ⟨v, ps, hr, hv⟩ := ho.look_ok law3 Try.underlying97 (zero3 w) hz hkk
  obtain ⟨s, rfl, hs, hw⟩ := plainElem_int_inv Try.underlying3 hv
  rw [atKey_of_not_has hh] at hs
  have h5 := congrArg Prod.fst hs
  simp only at h5
  have h5 := (Lit.int.inj (DataW.lit.inj h5)).2
  rw [hr, hh, ← h5]
end Go.Proofs.Ytonongaakieciaa
namespace Go.Proofs.Ytonongaakieciaa
open Go.RowKit
set_option linter.unusedVariables false
set_option linter.unusedSimpArgs false
set_option maxRecDepth 100000
/-- All partitions but one read as they did. -/
def Oth (one : Nat) (x x' : Sp) : Prop := ∀ (i : Nat) (t : List Pg), i ≠ one → x.tb[i]? = some t → ∃ t', x'.tb[i]? = some t' ∧ allL x'.st t' t'.length = allL x.st t t.length ∧ t'.length = t.length
theorem Oth.refl (one : Nat) (x : Sp) : Oth one x x := fun i t _ h => ⟨t, h, rfl, rfl⟩
theorem Oth.trans {one : Nat} {x y z : Sp} (h : Oth one x y) (k : Oth one y z) : Oth one x z := fun i t hi ht => by
  obtain ⟨t', h1, h2, h3⟩ := h i t hi ht
  obtain ⟨t'', k1, k2, k3⟩ := k i t' hi h1
  exact ⟨t'', k1, k2.trans h2, k3.trans h3⟩
theorem allL_eq {st st' : St} {t : List Pg} (h : ∀ q, q < 256 * t.length → st'.b (loc t (q : Int)) = st.b (loc t (q : Int))) : allL st' t t.length = allL st t t.length := by
  refine List.ext_getElem? fun q => ?_
  by_cases hq : q < 256 * t.length
  · rw [allL_at hq, allL_at hq, h q hq]
  · rw [List.getElem?_eq_none (by rw [allL_len _ _ _ (Nat.le_refl _)]; omega), List.getElem?_eq_none (by rw [allL_len _ _ _ (Nat.le_refl _)]; omega)]
theorem Oth.wr {x : Sp} (hok : SpOk x) {one : Nat} {t : List Pg} (h1 : x.tb[one]? = some t) {st' : St} (hw : Wr t x.st st') : Oth one x ⟨st', x.tb⟩ := fun i t' hi ht =>
  ⟨t', ht, allL_eq fun q hq => hok.others h1 ht hi hw hq, rfl⟩
theorem Oth.out {x : Sp} (hok : SpOk x) (one : Nat) (a : Int) (s : ByteArray) : Oth one x (outS x (one : Int) a s) := by
  unfold outS
  split
  · exact Oth.refl _ _
  · next h =>
    cases hp : hasP x (one : Int) with
    | false =>
      exfalso
      apply h
      unfold outE0
      rw [if_pos hp]
      decide
    | true =>
      obtain ⟨k, t, e, hk⟩ := hasP_some hp
      have e' : k = one := by omega
      subst e'
      rw [(tbOf_some hk).2]
      exact Oth.wr hok hk (Wr.wrS ..)
theorem Oth.ld {x : Sp} (hok : SpOk x) (one : Nat) (s : ByteArray) : Oth one x (ldS x (one : Int) s) := by
  unfold ldS
  split
  · exact Oth.refl _ _
  · next h =>
    cases hp : hasP x (one : Int) with
    | false =>
      exfalso
      apply h
      unfold ldE
      rw [if_pos hp]
      decide
    | true =>
      obtain ⟨k, t, e, hk⟩ := hasP_some hp
      have e' : k = one := by omega
      subst e'
      rw [(tbOf_some hk).2, Int.toNat_natCast]
      intro i t' hi ht
      refine ⟨t', by simp only; rw [List.getElem?_set, if_neg (fun e => hi e.symm)]; exact ht, allL_eq fun q hq => ?_, rfl⟩
      refine ldM_far s (fun p hm => ?_) t.length (Nat.le_refl _)
      obtain ⟨j, hj⟩ := List.getElem?_of_mem hm
      obtain ⟨p', hp'⟩ : ∃ p', t'[q / 256]? = some p' := ⟨_, List.getElem?_eq_getElem (by omega)⟩
      have g1 := (hok.pg k t hk p hm).1
      have g2 := (hok.pg i t' ht p' (List.mem_of_getElem? hp')).1
      have hne : p.f ≠ p'.f := fun e => hi (hok.ap i t' _ p' k t j p ht hp' hk hj e.symm).1
      rw [loc_at hp']
      omega
theorem Oth.all {one : Nat} {x x' : Sp} (h : Oth one x x') {i : Nat} (hi : i ≠ one) {t : List Pg} (ht : x.tb[i]? = some t) : hasP x' (i : Int) = true ∧ allS x' (i : Int) = allS x (i : Int) := by
  obtain ⟨t', h1, h2, -⟩ := h i t hi ht
  obtain ⟨a1, a2⟩ := tbOf_some h1
  obtain ⟨b1, b2⟩ := tbOf_some ht
  refine ⟨a1, ?_⟩
  unfold allS
  rw [a2, b2, h2]
theorem SpAt.map {w w' : World} {s p F g mm : Nat} {x : Sp} (h : SpAt w s p F g x) {n : Nat} {u : Nat → Bool} (hm : IMap w mm n u) (hf : Fr [mm] w w') : SpAt w' s p F g x := by
  obtain ⟨⟨c1, h1⟩, ⟨c2, h2⟩, ⟨c3, h3⟩, ⟨c4, h4⟩⟩ := h.blks
  have ne : ∀ {k : Nat} {t : TypeId} {cs : Array Value}, Blk w k t cs → k ∉ [mm] := fun hb hk => by
    simp at hk
    subst hk
    exact hm.not_cells hb
  exact h.fr hf (ne h1) (ne h2) (ne h3) (ne h4) (fun k hk cs mk he => by
    simp at hk
    subst hk
    exact hm.not_cells he)
theorem Sd.map {w0 w w' : World} {s p F g mm : Nat} {x : Sp} (h : Sd w0 w s p F g x) {n : Nat} {u : Nat → Bool} (hm : IMap w mm n u) (hg : w0.heap.size ≤ mm) (hf : Fr [mm] w w') : Sd w0 w' s p F g x :=
  ⟨h.at_.map hm hf, h.ok, h.fr.step hf (fun k hk => by simp at hk; subst hk; exact .inr hg), h.gF, h.gg⟩
/-- The frames of the tables ahead, and of the first pages of one, have been seen. -/
def Seen (x : Sp) (j q : Nat) (u : Nat → Bool) : Prop := ∀ k, u k = true → ∃ (i r : Nat) (t : List Pg) (pg : Pg), (i < j ∨ (i = j ∧ r < q)) ∧ x.tb[i]? = some t ∧ t[r]? = some pg ∧ pg.f = (k : Int)
theorem Seen.no {x : Sp} (hok : SpOk x) {j q : Nat} {u : Nat → Bool} (h : Seen x j q u) {t : List Pg} (ht : x.tb[j]? = some t) {pg : Pg} (hp : t[q]? = some pg) {k : Nat} (hk : pg.f = (k : Int)) : u k = false := by
  cases hu : u k with
  | false => rfl
  | true =>
    obtain ⟨i, r, t', pg', h1, h2, h3, h4⟩ := h k hu
    obtain ⟨e1, e2⟩ := hok.ap j t q pg i t' r pg' ht hp h2 h3 (by rw [hk, h4])
    omega
theorem Seen.next {x : Sp} {j q : Nat} {u : Nat → Bool} (h : Seen x j q u) {t : List Pg} (ht : x.tb[j]? = some t) {pg : Pg} (hp : t[q]? = some pg) {k : Nat} (hk : pg.f = (k : Int)) : Seen x j (q + 1) (fun i => if i = k then true else u i) := by
  intro i hi
  by_cases e : i = k
  · subst e
    exact ⟨j, q, t, pg, .inr ⟨rfl, by omega⟩, ht, hp, hk⟩
  · simp only [if_neg e] at hi
    obtain ⟨i', r, t', pg', h1, h2⟩ := h i hi
    exact ⟨i', r, t', pg', by omega, h2⟩
theorem Seen.row {x : Sp} {j q : Nat} {u : Nat → Bool} (h : Seen x j q u) : Seen x (j + 1) 0 u := by
  intro i hi
  obtain ⟨i', r, t', pg', h1, h2⟩ := h i hi
  exact ⟨i', r, t', pg', by omega, h2⟩
end Go.Proofs.Ytonongaakieciaa
namespace Go.Proofs.Ytonongaakieciaa
open Go.RowKit
set_option linter.unusedVariables false
set_option linter.unusedSimpArgs false
set_option maxRecDepth 100000
/-- A slice of texts. -/
def PrS (w : World) (A : Option Addr) (n : Nat) (l : Nat → ByteArray) : Prop :=
  n ≤ maxLen ∧ ∀ i, i < n → ∃ b off, A = some ⟨b, off, none⟩ ∧ w.cell? ⟨b, off + i, none⟩ = some (.string (l i))
theorem PrS.fr {w w' : World} {A : Option Addr} {n : Nat} {l : Nat → ByteArray} (h : PrS w A n l) (hf : Fr [] w w') : PrS w' A n l :=
  ⟨h.1, fun i hi => by obtain ⟨b, off, e, hc⟩ := h.2 i hi; exact ⟨b, off, e, hf.cell_some hc (by simp)⟩⟩
theorem apart_bad (b m cap : Nat) (A : Option Addr) (t : List Pg) (w : World) (ht : Tb w b (.slice A m cap) t) (PA : Option Addr) (np pc : Nat) (wp : Int) (B : Option Addr) (ns cs : Nat) (hE : ptsE t ≠ 0) :
    Calls Try.prog 11 #[.slice A m cap, .slice PA np pc, .agg #[.int .i64 wp, .slice B ns cs]] w fun e w' => e = .returned (.bool true) ∧ Fr [] w w' := by
  have H0 : Hid (Fr [] w (w.alloc (.cells #[.int .i64 wp, .slice B ns cs] 96))) := Lib.hid ((Fr.refl [] w).alloc _)
  have HT := Lib.hid (fun W (hf : Fr [] w W) => ht.fr hf (by simp))
  have H13 := Lib.hid (fun W (hf : Fr [] w W) => SNew_bad b m cap A t W (HT.out W hf) hE)
  have H14 := Lib.hid (fun W (hf : Fr [] w W) => (show Calls Try.prog 14 #[.slice A m cap] W fun e w' => e = .returned (.bool false) ∧ W = w' by
    have := Check_pts b m cap A t W (HT.out W hf)
    rwa [decide_eq_false hE] at this))
  have H15 := Lib.hid fixed_any
  generalize hW0 : (w.alloc (.cells #[.int .i64 wp, .slice B ns cs] 96)) = W0 at *
  clear ht HT hE
  go_enter Try.func11, Try.ntmps11
  go_wp2_with (first
    | (go_at_call 13; refine (H13.out _ H0.out).mono ?_; clear H13; rintro e w1 ⟨rfl, hf⟩; have H1 := Lib.hid (H0.out.trans hf); clear hf)
    | (go_at_call 14; refine (H14.out _ H1.out).mono ?_; clear H14; rintro e w2 ⟨rfl, rfl⟩)
    | (go_at_call 15; refine (H15.out _).mono ?_; clear H15; rintro e w3 ⟨rfl, hf⟩; have H2 := Lib.hid (H1.out.trans hf); clear hf)
    | fail)
  go_ret
  exact ⟨rfl, H2.out⟩
/-- How many pages each partition has. -/
def PnA (t : List Pg) (x : Sp) : Prop := x.tb.length = t.length ∧ ∀ i, i < t.length → Pn (rN t i) i x
theorem PnA.new (t : List Pg) : PnA t (spNew t) := ⟨by simp [spNew], fun i hi => Pn.new hi⟩
theorem ldS_len (x : Sp) (i : Int) (s : ByteArray) : (ldS x i s).tb.length = x.tb.length := by
  unfold ldS
  split
  · rfl
  · simp
theorem PnA.ld {t : List Pg} {x : Sp} (h : PnA t x) (i : Int) (s : ByteArray) : PnA t (ldS x i s) := ⟨by rw [ldS_len, h.1], fun j hj => (h.2 j hj).ld i s⟩
def rnW (t : List Pg) (i : Nat) : Prop := ∃ pg, t[i]? = some pg ∧ (rN t i : Int) = pg.r ∧ rN t i ≤ 16
theorem rn_all {t : List Pg} (hE : ptsE t = 0) {i : Nat} (hi : i < t.length) : rnW t i := by
  obtain ⟨pg, hpg⟩ : ∃ q, t[i]? = some q := ⟨_, List.getElem?_eq_getElem hi⟩
  unfold ptsE at hE
  split at hE
  · next h =>
    have h2 := List.all_eq_true.1 h.2 pg (List.mem_of_getElem? hpg)
    unfold ptOk at h2
    simp at h2
    refine ⟨pg, hpg, ?_⟩
    unfold rN
    rw [hpg]
    simp
    omega
  · omega
theorem Try.info9s : (Try.prog.info? 9).map (fun i => (i.zero, i.size, i.bytes)) = some (some (.string ⟨#[]⟩), 1, 16) := by kernel_rfl
def wasL (x : Sp) (j : Nat) : List Value := (List.range j).map fun i => .string (allS x ((i : Nat) : Int))
theorem wasL_len (x : Sp) (j : Nat) : (wasL x j).length = j * 1 := by simp [wasL]
theorem wasL_succ (x : Sp) (j : Nat) : wasL x (j + 1) = wasL x j ++ [.string (allS x ((j : Nat) : Int))] := by
  unfold wasL
  rw [List.range_succ, List.map_append]
  rfl
theorem wasL_at (x : Sp) {j i : Nat} (h : i < j) : (wasL x j)[i]? = some (.string (allS x ((i : Nat) : Int))) := by simp [wasL, h]
theorem Sd.own {w0 w w' : World} {s p F g : Nat} {x : Sp} (h : Sd w0 w s p F g x) {v : Value} {n : Nat} {xs : List Value} (ho : w.ownsRow w0.heap.size 9 1 v n xs) (hg : w.grownBy w' v.ownBlock) : Sd w0 w' s p F g x := by
  obtain ⟨⟨c1, h1⟩, ⟨c2, h2⟩, ⟨c3, h3⟩, ⟨c4, h4⟩⟩ := h.at_.blks
  have ne : ∀ {k : Nat} {t : TypeId} {cs : Array Value}, Blk w k t cs → t ≠ 9 → k ∉ v.ownBlock.toList := fun hb ht hk => by
    obtain ⟨-, cs', hb'⟩ := own_blk ho _ hk
    exact ht (hb.eq hb').1
  refine ⟨h.at_.fr (Fr.of_own hg) (ne h1 (by decide)) (ne h2 (by decide)) (ne h3 (by decide)) (ne h4 (by decide)) (fun k hk cs mk he => ?_), h.ok, h.fr.own ho hg, h.gF, h.gg⟩
  obtain ⟨-, cs', hb'⟩ := own_blk ho _ hk
  unfold Blk at hb'
  rw [hb'] at he
  injection he with he
  injection he with _ he _
  exact absurd he (by decide)
/-- What each partition was. -/
def Was (w : World) (gw : Nat) (x : Sp) (m : Nat) : Prop := ∃ cs, Blk w gw 9 cs ∧ ∀ i, i < m → cs[i]? = some (.string (allS x ((i : Nat) : Int)))
theorem Was.fr {w w' : World} {gw m : Nat} {x : Sp} {S : List Nat} (h : Was w gw x m) (hf : Fr S w w') (hg : gw ∉ S) : Was w' gw x m := by
  obtain ⟨cs, hb, hc⟩ := h
  exact ⟨cs, hb.fr hf hg, hc⟩
theorem Was.ne {w : World} {gw m k : Nat} {x : Sp} {t : TypeId} {cs : Array Value} (h : Was w gw x m) (hb : Blk w k t cs) (ht : t ≠ 9) : gw ≠ k := by
  obtain ⟨cs', hb', -⟩ := h
  exact Blk.ne_type hb' hb (fun e => ht e.symm)
structure ApI (w0 w : World) (s p F g gw m f : Nat) (x0 x : Sp) : Prop where
  d : Sd w0 w s p F g x
  oth : Oth f x0 x
  was : Was w gw x0 m
  has : hasP x (f : Int) = true
structure ApM (w0 w : World) (s p F g gw m f v : Nat) (x0 x : Sp) (y : Vm) : Prop where
  d : Sm w0 w s p F g v x y
  oth : Oth f x0 x
  was : Was w gw x0 m
  has : hasP x (f : Int) = true
/-- Blocks of other types stay. -/
def Kb (w w' : World) : Prop := ∀ (k : Nat) (t : TypeId) (cs : Array Value), Blk w k t cs → t ≠ 136 → t ≠ 62 → t ≠ 134 → Blk w' k t cs
theorem Kb.fr {w w' : World} (hf : Fr [] w w') : Kb w w' := fun k t cs hb _ _ _ => hb.fr hf (by simp)
theorem Kb.two {w w' : World} {a b : Nat} {ta tb : TypeId} {ca cb : Array Value} (ha : Blk w a ta ca) (hb : Blk w b tb cb) (h1 : ta = 136 ∨ ta = 62 ∨ ta = 134) (h2 : tb = 136 ∨ tb = 62 ∨ tb = 134) (hf : Fr [a, b] w w') : Kb w w' := fun k t cs hk k1 k2 k3 => hk.fr hf (by
  have e1 : k ≠ a := Blk.ne_type hk ha (fun e => by rw [e] at k1 k2 k3; rcases h1 with h | h | h; exact k1 h; exact k2 h; exact k3 h)
  have e2 : k ≠ b := Blk.ne_type hk hb (fun e => by rw [e] at k1 k2 k3; rcases h2 with h | h | h; exact k1 h; exact k2 h; exact k3 h)
  simp
  omega)
section
variable {w0 w w' : World} {s p F g gw m f v : Nat} {x0 x : Sp} {y : Vm}
theorem ApI.ne (h : ApI w0 w s p F g gw m f x0 x) : gw ≠ s ∧ gw ≠ p ∧ gw ≠ F ∧ gw ≠ g := by
  obtain ⟨⟨c1, h1⟩, ⟨c2, h2⟩, ⟨c3, h3⟩, ⟨c4, h4⟩⟩ := h.d.at_.blks
  exact ⟨h.was.ne h1 (by decide), h.was.ne h2 (by decide), h.was.ne h3 (by decide), h.was.ne h4 (by decide)⟩
theorem ApI.to (h : ApI w0 w s p F g gw m f x0 x) (hf : Fr [] w w') : ApI w0 w' s p F g gw m f x0 x := ⟨h.d.to hf, h.oth, h.was.fr hf (by simp), h.has⟩
theorem ApI.load (h : ApI w0 w s p F g gw m f x0 x) (t : ByteArray) : Calls Try.prog 17 #[ptr s, .int .i64 (f : Int), .string t] w fun e w' => ∃ (c : Int) (x' : Sp), e = .returned (.int .i64 c) ∧ ApI w0 w' s p F g gw m f x0 x' ∧ Kb w w' := by
  obtain ⟨n1, n2, n3, n4⟩ := h.ne
  obtain ⟨-, -, ⟨q3, h3⟩, ⟨q4, h4⟩⟩ := h.d.at_.blks
  refine (SLoad_any s p F g x (f : Int) t w h.d.at_ h.d.ok.n1).mono fun e w' ⟨he, ht⟩ => ⟨_, _, he, ⟨h.d.turn ht (h.d.ok.ld _ t), h.oth.trans (Oth.ld h.d.ok f t), h.was.fr ht.2 (by simp; omega), ?_⟩, Kb.two h3 h4 (by simp) (by simp) ht.2⟩
  have := h.has
  unfold hasP at this ⊢
  rw [ldS_len]
  exact this
theorem ApI.out (h : ApI w0 w s p F g gw m f x0 x) (a : Int) (t : ByteArray) (ha : a ≤ 9223372036854775807) : Calls Try.prog 19 #[ptr s, .int .i64 (f : Int), .int .i64 a, .string t] w fun e w' => ∃ (c : Int) (x' : Sp), e = .returned (.int .i64 c) ∧ ApI w0 w' s p F g gw m f x0 x' ∧ Kb w w' := by
  obtain ⟨n1, n2, n3, n4⟩ := h.ne
  obtain ⟨-, -, ⟨q3, h3⟩, ⟨q4, h4⟩⟩ := h.d.at_.blks
  refine (Out_any s p F g x (f : Int) a t w h.d.at_ ha).mono fun e w' ⟨he, ht⟩ => ⟨_, _, he, ⟨h.d.turn ht (h.d.ok.out _ a t), h.oth.trans (Oth.out h.d.ok f a t), h.was.fr ht.2 (by simp; omega), ?_⟩, Kb.two h3 h4 (by simp) (by simp) ht.2⟩
  have := h.has
  have e : (outS x (f : Int) a t).tb = x.tb := by unfold outS; split <;> rfl
  unfold hasP at this ⊢
  rw [e]
  exact this
theorem ApI.machine (h : ApI w0 w s p F g gw m f x0 x) : Calls Try.prog 30 #[] w fun e w' => ∃ v, e = .returned (ptr v) ∧ ApM w0 w' s p F g gw m f v x0 x vm0 ∧ Kb w w' :=
  (vNew_any w).mono fun e w' ⟨he, hv, hf⟩ => ⟨_, he, ⟨⟨h.d.to hf, hv, h.d.fr.size⟩, h.oth, h.was.fr hf (by simp), h.has⟩, Kb.fr hf⟩
theorem ApM.i (h : ApM w0 w s p F g gw m f v x0 x y) : ApI w0 w s p F g gw m f x0 x := ⟨h.d.d, h.oth, h.was, h.has⟩
theorem ApM.to (h : ApM w0 w s p F g gw m f v x0 x y) (hf : Fr [] w w') : ApM w0 w' s p F g gw m f v x0 x y := ⟨h.d.to hf, h.oth, h.was.fr hf (by simp), h.has⟩
theorem ApM.mem (h : ApM w0 w s p F g gw m f v x0 x y) : Calls Try.prog 52 #[ptr s] w fun e w' => e = .returned (ptr p) ∧ w = w' := h.d.mem
theorem ApM.table (h : ApM w0 w s p F g gw m f v x0 x y) : Calls Try.prog 51 #[ptr s, .int .i64 (f : Int)] w fun e w' => ∃ b, e = .returned (.slice (some ⟨b, 0, none⟩) (tbOf x (f : Int)).length (tbOf x (f : Int)).length) ∧ PB w' b (tbOf x (f : Int)) ∧ ApM w0 w' s p F g gw m f v x0 x y ∧ Kb w w' :=
  (Table_any s p F g x (f : Int) w h.d.d.at_ h.d.d.ok.n1).mono fun e w' hT => by
    rcases hT with ⟨h0, -⟩ | ⟨-, b, he, hB, hf, hb⟩
    · exact absurd (h0.symm.trans h.has) (by decide)
    · exact ⟨b, he, hB, h.to hf, Kb.fr hf⟩
theorem ApM.step (h : ApM w0 w s p F g gw m f v x0 x y) {b : Nat} (hB : PB w b (tbOf x (f : Int))) : Calls Try.prog 34 #[ptr v, ptr p, .slice (some ⟨b, 0, none⟩) (tbOf x (f : Int)).length (tbOf x (f : Int)).length] w fun e w' =>
    ∃ (k n : Int) (x' : Sp) (y' : Vm), e = .returned (.agg #[.int .i64 k, .int .i64 n]) ∧ ApM w0 w' s p F g gw m f v x0 x' y' ∧ Kb w w' := by
  obtain ⟨-, -, ⟨q3, h3⟩, -⟩ := h.d.d.at_.blks
  obtain ⟨k, t, ek, hk⟩ := hasP_some h.has
  have e' : k = f := by omega
  subst e'
  obtain ⟨-, hto⟩ := tbOf_some hk
  have hl := h.d.d.at_.n3 k t hk
  rw [hto] at hB ⊢
  obtain ⟨A, c, e, -, -, -, b', cb, mk, hb', hT⟩ := hB.tb (cap := t.length) (Nat.le_refl _) (by simp only [maxLen]; omega)
  have hbb : b' < w.heap.size := (Array.getElem?_eq_some_iff.1 hb').1
  obtain ⟨n1, n2, n3, n4⟩ := h.i.ne
  have n5 := h.was.ne h.d.vm.hb (by decide)
  refine (Step_any v p F b' t.length t.length y x.st _ t w h.d.vm h.d.d.at_.mem hT hbb).mono fun e w' ⟨he, hv, hm, hf⟩ => ?_
  have hW := Wr.stepV y x.st t
  refine ⟨_, _, ⟨(stepV y x.st t).2.2, x.tb⟩, _, he, ⟨⟨⟨h.d.d.at_.turnV h.d.vm.hb hm hf, h.d.d.ok.st_ hW.n, ?_, h.d.d.gF, h.d.d.gg⟩, hv, h.d.gv⟩, h.oth.trans (Oth.wr h.d.d.ok hk hW), h.was.fr hf (by simp; omega), h.has⟩, Kb.two h.d.vm.hb h3 (by simp) (by simp) hf⟩
  exact h.d.d.fr.step hf (fun k hk => by
    simp at hk
    rcases hk with rfl | rfl
    · exact .inr h.d.gv
    · exact .inr h.d.d.gF)
theorem ApM.answer (h : ApM w0 w s p F g gw m f v x0 x y) (b : Nat) (l0 l1 l2 : Int) (hb : Blk w b 3 #[.int .i64 l0, .int .i64 l1, .int .i64 l2]) : Calls Try.prog 33 #[ptr v, .slice (some ⟨b, 0, none⟩) 3 3] w fun e w' => ∃ (c : Int) (y' : Vm), e = .returned (.int .i64 c) ∧ ApM w0 w' s p F g gw m f v x0 x y' ∧ Kb w w' := by
  obtain ⟨n1, n2, n3, n4⟩ := h.d.ne
  have n5 := h.was.ne h.d.vm.hb (by decide)
  by_cases hw : y.wt = true
  · refine (vAnswer_yes h.d.vm b 0 3 (fun j => if j = 0 then l0 else if j = 1 then l1 else l2) hw (fun j hj => ?_) (Blk.ne_type hb h.d.vm.hb (by decide))).mono fun e w' ⟨he, hv, hf⟩ => ?_
    · rw [Nat.zero_add, hb.cell]
      rcases (by omega : j = 0 ∨ j = 1 ∨ j = 2) with rfl | rfl | rfl <;> rfl
    · refine ⟨_, _, he, ⟨⟨⟨h.d.d.at_.fr hf (by simp; omega) (by simp; omega) (by simp; omega) (by simp; omega) (h.d.vm.hb.not (by decide)), h.d.d.ok, ?_, h.d.d.gF, h.d.d.gg⟩, hv, h.d.gv⟩, h.oth, h.was.fr hf (by simp; omega), h.has⟩, Kb.two h.d.vm.hb h.d.vm.hb (by simp) (by simp) (hf.mono (by simp))⟩
      exact h.d.d.fr.step hf (fun k hk => by
        simp at hk
        subst hk
        exact .inr h.d.gv)
  · refine (vAnswer_no h.d.vm _ 3 3 (.inl (by simpa using hw))).mono fun e w' ⟨he, hf⟩ => ?_
    subst hf
    exact ⟨_, _, he, h, Kb.fr (Fr.refl _ _)⟩
end
set_option maxHeartbeats 8000000 in
theorem apart_ok (b m cap : Nat) (A : Option Addr) (t : List Pg) (w : World) (ht : Tb w b (.slice A m cap) t) (PA : Option Addr) (np pc : Nat) (prs : Nat → ByteArray) (hprs : PrS w PA np prs) (wp : Int) (hwp : -9223372036854775808 ≤ wp ∧ wp ≤ 9223372036854775807) (B : Option Addr) (ns cs : Nat) (ops : Nat → OpS) (ho : OpsS w B ns ops) (hE : ptsE t = 0) :
    Calls Try.prog 11 #[.slice A m cap, .slice PA np pc, .agg #[.int .i64 wp, .slice B ns cs]] w fun e w' => e = .returned (.bool true) ∧ Fr [] w w' := by
  have H0 : Hid (Fr [] w (w.alloc (.cells #[.int .i64 wp, .slice B ns cs] 96))) := Lib.hid ((Fr.refl [] w).alloc _)
  have HB := Lib.hid (Blk.new w 96 #[.int .i64 wp, .slice B ns cs])
  have hl := ht.n_eq
  have ⟨h1, h8⟩ : 1 ≤ m ∧ m ≤ 8 := by
    unfold ptsE at hE
    split at hE
    · next h => omega
    · omega
  obtain ⟨f, ef, hf⟩ := place_nat wp m (by omega)
  obtain ⟨pg0, hpg0⟩ : ∃ q, t[0]? = some q := ⟨_, List.getElem?_eq_getElem (by omega)⟩
  obtain ⟨off, hA, hbl, -, -⟩ := ht.at_ hpg0
  subst hA
  have HC := Lib.hid (fun W (hf : Fr [] w W) i (hi : i < m) => (show W.cell? ⟨b, off + i * 2 + 1, none⟩ = some (.int .i64 (rN t i : Int)) ∧ rN t i ≤ 16 by
    obtain ⟨pg, hpg, h2, h3⟩ := rn_all hE (i := i) (by omega)
    obtain ⟨off', hA', -, -, c1⟩ := ht.at_ hpg
    injection hA' with hA'
    injection hA' with _ e2
    subst e2
    rw [h2]
    exact ⟨hf.cell_some c1 (by simp), h3⟩))
  have H13 := Lib.hid (Sd.new b m cap _ t _ _ (ht.fr H0.out (by simp)) hE (Fr.refl [] _))
  have H16 := Lib.hid (fun W => (show Calls Try.prog 16 #[.int .i64 wp, .int .i64 (m : Int)] W fun e w' => e = .returned (.int .i64 (f : Int)) ∧ W = w' by
    have := place_any wp m (by omega) (by omega) hwp.1 hwp.2 W
    rwa [ef] at this))
  have H60 := Lib.hid (fun (x : Int) (hx : -9223372036854775808 ≤ x ∧ x ≤ 9223372036854775807) W => place_any x 60 (by omega) (by omega) hx.1 hx.2 W)
  have Ho := Lib.hid ho
  have Hpr := Lib.hid hprs
  have hnn := ho.1
  have hnp := hprs.1
  simp only [maxLen] at hnn hnp
  generalize hW0 : (w.alloc (.cells #[.int .i64 wp, .slice B ns cs] 96)) = W0 at *
  have HP0 := Lib.hid (PnA.new t)
  obtain ⟨X0, eX0⟩ : ∃ X, spNew t = X := ⟨_, rfl⟩
  rw [eX0] at H13 HP0
  have H15 := Lib.hid fixed_any
  have Hl := Lib.hid hl
  have hf0 : (0 : Int) ≤ (f : Int) := by omega
  have hfm : (f : Int) < (m : Int) := by omega
  clear ht ho hprs hE ef hl hpg0 eX0 pg0
  go_enter Try.func11, Try.ntmps11
  go_upto_block 0 with (first
    | (go_at_call 13; refine H13.out.mono ?_; clear H13; rintro e w1 ⟨s, p, F, g, rfl, hd, -⟩; have HD := Lib.hid hd; clear hd)
    | fail)
  go_cut [9] (fun s9 wx => ∃ x, Sd W0 wx s p F g x ∧ PnA t x)
  case first =>
    go_wp2_with fail
    go_loopg [9] m (fun gg i wr => ∃ (j : Nat) (x : Sp), j + gg = m ∧ i = .int .i64 (j : Int) ∧ Sd W0 wr s p F g x ∧ PnA t x)
    case atStart => exact ⟨0, X0, by omega, rfl, HD.out, HP0.out⟩
    case round =>
      obtain ⟨j, x, hj, rfl, hd, hp⟩ := hrel
      have Hj := Lib.hid hj
      have Hd := Lib.hid hd
      have Hp := Lib.hid hp
      by_cases hlt : j < m ∧ j < np
      · have hlt1 : (j : Int) < (m : Int) := by omega
        have hlt2 : (j : Int) < (np : Int) := by omega
        have hj0 : (0 : Int) ≤ (j : Int) := by omega
        have hwk : IntKind.i64.wrap ((j : Int) + 1) = (j : Int) + 1 := IntWalk.i64_in _ (by omega)
        obtain ⟨bo, off2, rfl, k0⟩ := (Hpr.out.fr (H0.out.trans hd.fr)).2 j hlt.2
        have HL := Lib.hid (hd.load (j : Int) (prs j))
        have HN := Lib.hid (hp.ld (j : Int) (prs j))
        generalize prs j = sj at *
        generalize ldE x (j : Int) sj = E0 at *
        generalize ldS x (j : Int) sj = X1 at *
        clear hj hd hp
        go_wp2_with (first
          | (go_at_call 17; refine HL.out.mono ?_; rintro e w2 ⟨rfl, hd2⟩; have HD2 := Lib.hid hd2; clear hd2)
          | fail)
        go_roundg (m - (j + 1))
        case measure => have := Hj.out; omega
        case rel => exact ⟨j + 1, X1, by have := Hj.out; omega, by go_num, HD2.out, HN.out⟩
      · by_cases hm : j < m
        · have h1 : (j : Int) < (m : Int) := by omega
          have h2 : ¬ (j : Int) < (np : Int) := by omega
          clear hj hlt
          go_wp2_with fail
          go_meet
          exact ⟨x, Hd.out, Hp.out⟩
        · have h1 : ¬ (j : Int) < (m : Int) := by omega
          clear hj hlt
          go_wp2_with fail
          go_meet
          exact ⟨x, Hd.out, Hp.out⟩
  case rest =>
    obtain ⟨x, hd, hp⟩ := hcut
    have HD1 := Lib.hid hd
    have HP1 := Lib.hid hp
    clear hd hp HD HP0 X0
    have hmm := @run_makeMap Try.prog
    have HM0 := Lib.hid (IMap.made (w := wc) (n := 4096) (by omega))
    have HD2 := Lib.hid (HD1.out.to ((Fr.refl [] wc).alloc (.map #[] 0)))
    have HG := Lib.hid HD1.out.fr.size
    have HS0 : Hid (Seen x 0 0 (fun _ => false)) := Lib.hid (fun k hk => by cases hk)
    go_upto_block 2 with fail
    go_cut [11] (fun s11 wx => Sd W0 wx s p F g x)
    case first =>
      go_wp2_with fail
      go_loopg [11] m (fun gg i wr => ∃ (j : Nat) (u : Nat → Bool), j + gg = m ∧ i = .int .i64 (j : Int) ∧ Sd W0 wr s p F g x ∧ IMap wr wc.heap.size 4096 u ∧ Seen x j 0 u)
      case atStart => exact ⟨0, fun _ => false, by omega, rfl, HD2.out, HM0.out, HS0.out⟩
      case round =>
        obtain ⟨j, u, hj, rfl, hd, hm, hs⟩ := hrel
        have Hj := Lib.hid hj
        have Hd := Lib.hid hd
        have Hm := Lib.hid hm
        have Hs := Lib.hid hs
        by_cases hlt : j < m
        · have hlt1 : (j : Int) < (m : Int) := by omega
          have hj0 : (0 : Int) ≤ (j : Int) := by omega
          have hwk : IntKind.i64.wrap ((j : Int) + 1) = (j : Int) + 1 := IntWalk.i64_in _ (by omega)
          obtain ⟨tj, htj, hlj⟩ := HP1.out.2 j (by rw [← Hl.out]; exact hlt)
          obtain ⟨hpj, htoj⟩ := tbOf_some htj
          have HTa := Lib.hid (hd.table hpj)
          rw [htoj] at HTa
          have Htj := Lib.hid htj
          have HCj := Lib.hid (fun W (hf : Fr [] w W) => HC.out W hf j hlt)
          have HPg := Lib.hid (fun q (hq : q < tj.length) => (show ∃ (k : Nat) (pg : Pg), tj[q]? = some pg ∧ pg.f = (k : Int) ∧ k < 4096 by
            obtain ⟨pg, hpg⟩ : ∃ pg, tj[q]? = some pg := ⟨_, List.getElem?_eq_getElem hq⟩
            have h2 := okT_at (hd.ok.ok j tj htj) hpg
            have h3 := (hd.ok.pg j tj htj pg (List.mem_of_getElem? hpg)).1
            have h4 := hd.at_.mem.hd.n2
            exact ⟨pg.f.toNat, pg, hpg, by omega, by omega⟩))
          have hl16 : tj.length ≤ 16 := hd.at_.n3 j tj htj
          have Hlj := Lib.hid hlj
          have hjj : ((tj.length : Nat) : Int) = ((rN t j : Nat) : Int) := by rw [hlj]
          generalize hLj : tj.length = Lj at *
          clear hj hd hm hs hlj htj hpj htoj
          go_wp2_with (first
            | (go_at_call 51; refine HTa.out.mono ?_; rintro e w2 ⟨b2, rfl, hB, hg2, hf2, hd2⟩; have HB2 := Lib.hid hB; have HD3 := Lib.hid hd2; have HM3 := Lib.hid (Hm.out.fr hf2 (by simp)); have kC := (HCj.out w2 (H0.out.trans hd2.fr)).1; clear hB hd2 hf2)
            | fail)
          obtain ⟨wr1, rfl⟩ : ∃ W, W = wr := ⟨_, rfl⟩
          go_loopg [13] Lj (fun gg i wr => ∃ (q : Nat) (u : Nat → Bool), q + gg = Lj ∧ i = .int .i64 (q : Int) ∧ Sd W0 wr s p F g x ∧ IMap wr wc.heap.size 4096 u ∧ Seen x j q u ∧ PB wr b2 tj)
          case atStart => exact ⟨0, u, by omega, rfl, HD3.out, HM3.out, Hs.out, HB2.out⟩
          case round =>
            obtain ⟨q, u2, hq, rfl, hd, hm, hs, hB⟩ := hrel
            have Hq := Lib.hid hq
            have Hd4 := Lib.hid hd
            have Hm4 := Lib.hid hm
            have Hs4 := Lib.hid hs
            have HB4 := Lib.hid hB
            by_cases hqL : q < Lj
            · have hq1 : (q : Int) < (Lj : Int) := by omega
              have hq0 : (0 : Int) ≤ (q : Int) := by omega
              have hwq : IntKind.i64.wrap ((q : Int) + 1) = (q : Int) + 1 := IntWalk.i64_in _ (by omega)
              obtain ⟨k, pg, hpg, hk, hk4⟩ := HPg.out q hqL
              obtain ⟨c0, -⟩ := hB.cells hpg
              rw [hk] at c0
              have hlk := hm.look_none (k := k) hk4 (hs.no hd.ok Htj.out hpg hk)
              obtain ⟨w5, hup, hm5, hf5⟩ := hm.put (k := k) hk4 (a := (j : Int)) (wfk (by omega))
              have HD5 := Lib.hid (hd.map hm HG.out hf5)
              have HM5 := Lib.hid hm5
              have HS5 := Lib.hid (hs.next Htj.out hpg hk)
              have HB5 := Lib.hid (hB.fr hf5 (fun hh => by
                simp at hh
                subst hh
                obtain ⟨cs5, hb5, -⟩ := hB
                exact hm.not_cells hb5))
              clear hq hd hm hs hB hpg hk hm5 hf5
              go_wp2_with fail
              go_roundg (Lj - (q + 1))
              case measure => have := Hq.out; omega
              case rel => exact ⟨q + 1, _, by have := Hq.out; omega, by go_num, HD5.out, HM5.out, HS5.out, HB5.out⟩
            · have hq1 : ¬ (q : Int) < (Lj : Int) := by omega
              obtain rfl : q = Lj := by omega
              clear hq hd hm hs hB
              go_wp2_with fail
              go_roundg (m - (j + 1))
              case measure => have := Hj.out; omega
              case rel => exact ⟨j + 1, u2, by have := Hj.out; omega, by go_num, Hd4.out, Hm4.out, Hs4.out.row⟩
        · have hlt1 : ¬ (j : Int) < (m : Int) := by omega
          clear hj hlt
          go_wp2_with fail
          go_meet
          exact Hd.out
    case rest =>
      have HD6 := Lib.hid hcut
      obtain ⟨wc1, hwc1⟩ : ∃ W, W = wc := ⟨_, rfl⟩
      obtain ⟨i0, hi0, hz0, hz1, hz2⟩ := info3 Try.info9s
      have HD7 := Lib.hid (HD6.out.to ((Fr.refl [] wc).alloc (.cells #[] 9)))
      have HO7 := Lib.hid (World.ownsRow_made (base := W0.heap.size) (e := 9) (size := 1) wc #[] 0 HD6.out.fr.size (by simp [maxLen]) (by simp))
      have HBx := Lib.hid (HB.out.fr HD6.out.fr (by simp))
      have k0 : wc.cell? ⟨w.heap.size, 0, none⟩ = some (.int .i64 wp) := HBx.out.cell 0
      clear hwc1 hcut
      go_upto_block 6 with (first
        | (go_at_call 16; refine (H16.out _).mono ?_; clear H16; rintro e w2 ⟨rfl, rfl⟩)
        | fail)
      clear k0
      go_cut [17, 18] (fun v18 s18 wx => Sd W0 wx s p F g x ∧ wx.ownsRow W0.heap.size 9 1 v18 m (wasL x m))
      case first =>
        go_wp2_with fail
        go_loopg [17, 18] m (fun gg v i wr => ∃ (j : Nat), j + gg = m ∧ i = .int .i64 (j : Int) ∧ Sd W0 wr s p F g x ∧ wr.ownsRow W0.heap.size 9 1 v j (wasL x j))
        case atStart => exact ⟨0, by omega, rfl, HD7.out, HO7.out⟩
        case round =>
          obtain ⟨j, hj, rfl, hd, how⟩ := hrel
          have Hj := Lib.hid hj
          have Hd := Lib.hid hd
          have How := Lib.hid how
          by_cases hlt : j < m
          · have hlt1 : (j : Int) < (m : Int) := by omega
            have hwk : IntKind.i64.wrap ((j : Int) + 1) = (j : Int) + 1 := IntWalk.i64_in _ (by omega)
            have HAl := Lib.hid ((all_any s p F g x (j : Int) wr hd.at_ hd.ok (HP1.out.2 j (by rw [← Hl.out]; exact hlt)).has.1).mono (R' := fun e w' => e = .returned (.string (allS x (j : Int))) ∧ Sd W0 w' s p F g x ∧ Fr [] wr w') (fun e w' ⟨he, hf⟩ => ⟨he, hd.to hf, hf⟩))
            have HXS := Lib.hid (wasL_succ x j)
            have HLn := Lib.hid (wasL_len x j)
            generalize allS x (j : Int) = V at *
            generalize wasL x j = XS at *
            obtain ⟨A8, c8, rfl⟩ := own_shape how
            have hA1 : j + 1 ≤ maxLen := by simp only [maxLen]; omega
            have hA2 : (j + 1) * 16 ≤ 140737488355328 := by omega
            clear hj hd how
            go_wp2_with (first
              | (go_at_call 18; refine HAl.out.mono ?_; rintro e w2 ⟨rfl, hd2, hf2⟩; have HD2' := Lib.hid hd2; have HF2 := Lib.hid hf2; have HG2 := Lib.hid (show W0.heap.size ≤ (w2.alloc (.cells #[.string V] 9)).heap.size by have := hd2.fr.size; simp; omega); clear hd2 hf2)
              | (at_builtin; go_must (refine wpList_append_own _ rfl (.tmp 115) (.tmp 119) 70 rfl W0.heap.size 9 i0 (.string ⟨#[]⟩) 1 16 Try.underlying70 hi0 hz0 hz1 hz2 rfl (Nat.succ_pos 0) (.slice A8 j c8) j XS rfl (own_fr How.out (HF2.out.alloc (.cells #[.string V] 9)) (by simp)) ⟨w2.heap.size, 0, none⟩ 1 1 [.string V] rfl rfl (news1 ((Blk.new w2 9 #[.string V]).cell 0)) (by simp; rfl) hA1 hA2 HG2.out ?_; intro v1 w3 hown1 hg1 hnn; have HO3 := Lib.hid (And.intro hown1 ((HD2'.out.to ((Fr.refl [] w2).alloc (.cells #[.string V] 9))).own (own_fr How.out (HF2.out.alloc (.cells #[.string V] 9)) (by simp)) hg1)); clear hown1 hg1 hnn))
              | fail)
            go_roundg (m - (j + 1))
            case measure => have := Hj.out; omega
            case rel => exact ⟨j + 1, by have := Hj.out; omega, by go_num, HO3.out.2, by rw [HXS.out]; exact HO3.out.1⟩
          · have hlt1 : ¬ (j : Int) < (m : Int) := by omega
            obtain rfl : m = j := by omega
            clear hj hd how hlt
            go_wp2_with fail
            go_meet
            exact ⟨Hd.out, How.out⟩
      case rest =>
        obtain ⟨hd, how⟩ := hcut
        obtain ⟨gw, cw, csw, rfl, hgw, hcw1, hcw2, hbw, hcsw⟩ := own_some how (by
          intro e
          rcases how.2 with ⟨-, h2⟩ | ⟨_, _, _, h2, -⟩
          · omega
          · rw [e] at h2; cases h2)
        have HA0 : Hid (ApI W0 wc s p F g gw m f x x) := Lib.hid ⟨hd, Oth.refl _ _, ⟨csw, hbw, fun i hi => hcsw i _ (wasL_at x hi)⟩, (HP1.out.2 f (by rw [← Hl.out]; exact hf)).has.1⟩
        clear hd how HO7 HD7 HD6 HD2 HM0 HG HS0 hbw hcsw
        go_upto_block 8 with fail
        go_cut [19] (fun s19 wx => ∃ x', ApI W0 wx s p F g gw m f x x')
        case first =>
          go_wp2_with fail
          go_loopg [19] ns (fun gg i wr => ∃ (j : Nat) (x' : Sp), j + gg = ns ∧ i = .int .i64 (j : Int) ∧ ApI W0 wr s p F g gw m f x x')
          case atStart => exact ⟨0, x, by omega, rfl, HA0.out⟩
          case round =>
            obtain ⟨j, x1, hj, rfl, ha⟩ := hrel
            have Hj := Lib.hid hj
            have Ha := Lib.hid ha
            have k1 : wr.cell? ⟨w.heap.size, 1, none⟩ = some (.slice B ns cs) := (HB.out.fr ha.d.fr (by simp)).cell 1
            by_cases hlt : j < ns
            · have hlt1 : (j : Int) < (ns : Int) := by omega
              have hj0 : (0 : Int) ≤ (j : Int) := by omega
              have hwk : IntKind.i64.wrap ((j : Int) + 1) = (j : Int) + 1 := IntWalk.i64_in _ (by omega)
              obtain ⟨bo, off2, rfl, hat⟩ := (Ho.out.fr (H0.out.trans ha.d.fr)).2 j hlt
              obtain ⟨a0, a1, a2, a3, a4, a5⟩ := hat
              have HBo := Lib.hid (fun W (hf : Fr [] (wr.alloc (.cells #[.int .i64 (ops j).on, .int .i64 (ops j).kind, .int .i64 (ops j).part, .int .i64 (ops j).a, .int .i64 (ops j).b, .string (ops j).s] 24)) W) => (Blk.new wr 24 #[.int .i64 (ops j).on, .int .i64 (ops j).kind, .int .i64 (ops j).part, .int .i64 (ops j).a, .int .i64 (ops j).b, .string (ops j).s]).fr hf (by simp))
              have Ha2 := Lib.hid (ha.to ((Fr.refl [] wr).alloc (.cells #[.int .i64 (ops j).on, .int .i64 (ops j).kind, .int .i64 (ops j).part, .int .i64 (ops j).a, .int .i64 (ops j).b, .string (ops j).s] 24)))
              have hfa := (ops j).fa
              have hfb := (ops j).fb
              generalize (ops j).on = oo at *
              generalize (ops j).kind = ok at *
              generalize (ops j).part = op at *
              generalize (ops j).a = oa at *
              generalize (ops j).b = ob at *
              generalize (ops j).s = os at *
              clear hj ha
              have HBx0 := Lib.hid (Blk.new wr 24 #[.int .i64 oo, .int .i64 ok, .int .i64 op, .int .i64 oa, .int .i64 ob, .string os])
              go_upto_block 10 with fail
              generalize hWb : (wr.alloc (.cells #[.int .i64 oo, .int .i64 ok, .int .i64 op, .int .i64 oa, .int .i64 ob, .string os] 24)) = Wb at *
              go_cut [] (fun wx => ∃ x2, ApI W0 wx s p F g gw m f x x2 ∧ Blk wx wr.heap.size 24 #[.int .i64 oo, .int .i64 ok, .int .i64 op, .int .i64 oa, .int .i64 ob, .string os])
              case first =>
                have c1 : Wb.cell? ⟨wr.heap.size, 1, none⟩ = some (.int .i64 ok) := HBx0.out.cell 1
                have c3 : Wb.cell? ⟨wr.heap.size, 3, none⟩ = some (.int .i64 oa) := HBx0.out.cell 3
                have c5 : Wb.cell? ⟨wr.heap.size, 5, none⟩ = some (.string os) := HBx0.out.cell 5
                by_cases z0 : ok = 0
                · subst z0
                  have HL := Lib.hid (Ha2.out.load os)
                  go_wp2_with (first
                    | (go_at_call 17; refine HL.out.mono ?_; rintro e w2 ⟨ec, x2, rfl, ha2, hkb⟩; have HR := Lib.hid (And.intro ha2 hkb); clear ha2 hkb)
                    | fail)
                  go_meet
                  exact ⟨x2, HR.out.1, HR.out.2 _ _ _ HBx0.out (by decide) (by decide) (by decide)⟩
                · have z0b : (ok == 0) = false := beq_eq_false_iff_ne.2 z0
                  by_cases z2 : ok = 2
                  · subst z2
                    clear z0
                    have HL := Lib.hid (Ha2.out.out oa os hfa.2)
                    go_wp2_with (first
                      | (go_at_call 19; refine HL.out.mono ?_; rintro e w2 ⟨ec, x2, rfl, ha2, hkb⟩; have HR := Lib.hid (And.intro ha2 hkb); clear ha2 hkb)
                      | fail)
                    go_meet
                    exact ⟨x2, HR.out.1, HR.out.2 _ _ _ HBx0.out (by decide) (by decide) (by decide)⟩
                  · have z2b : (ok == 2) = false := beq_eq_false_iff_ne.2 z2
                    clear z0 z2
                    go_wp2_with fail
                    go_meet
                    exact ⟨x1, Ha2.out, HBx0.out⟩
              case rest =>
                obtain ⟨x2, ha2, hbx⟩ := hcut
                have HMa := Lib.hid ha2.machine
                have HBy := Lib.hid hbx
                obtain ⟨q, eq, hq⟩ := place_nat ob 60 (by omega)
                have HPl := Lib.hid (fun W => (show Calls Try.prog 16 #[.int .i64 ob, .int .i64 60] W fun e w' => e = .returned (.int .i64 (q : Int)) ∧ W = w' by
                  have := H60.out ob hfb W
                  rw [← eq]
                  exact this))
                clear ha2 hbx hWb a0 a1 a2 a3 a4 a5 k1 eq
                go_wp2_with (first
                  | (go_at_call 30; refine HMa.out.mono ?_; rintro e w3 ⟨v, rfl, hm3, hkb⟩; have HM3 := Lib.hid (And.intro hm3 (hkb _ _ _ HBy.out (by decide) (by decide) (by decide))); clear hm3 hkb)
                  | fail)
                obtain ⟨wr1, hwr1⟩ : ∃ W, W = wr.heap.size := ⟨_, rfl⟩
                rw [← hwr1] at HM3 HBy ⊢
                clear hwr1 Ha Ha2 HBo HBx0
                go_loopg [22] 60 (fun gg i wr => ∃ (k : Nat) (x' : Sp) (y : Vm), k + gg = 60 ∧ i = .int .i64 (k : Int) ∧ ApM W0 wr s p F g gw m f v x x' y ∧ Blk wr wr1 24 #[.int .i64 oo, .int .i64 ok, .int .i64 op, .int .i64 oa, .int .i64 ob, .string os])
                case atStart => exact ⟨0, x2, vm0, by omega, rfl, HM3.out.1, HM3.out.2⟩
                case round =>
                  obtain ⟨k, x3, y3, hk3, rfl, hm3, hb3⟩ := hrel
                  have Hk3 := Lib.hid hk3
                  have Hm3 := Lib.hid hm3
                  have Hb3 := Lib.hid hb3
                  have c4 : wr.cell? ⟨wr1, 4, none⟩ = some (.int .i64 ob) := hb3.cell 4
                  by_cases hkq : k < q
                  · have hkq' : (k : Int) < (q : Int) := by omega
                    have hwk3 : IntKind.i64.wrap ((k : Int) + 1) = (k : Int) + 1 := IntWalk.i64_in _ (by omega)
                    have HMe := Lib.hid hm3.mem
                    have HTa := Lib.hid hm3.table
                    have HSt := Lib.hid (fun b' W (h : ApM W0 W s p F g gw m f v x x3 y3) (hB : PB W b' (tbOf x3 (f : Int))) => h.step hB)
                    generalize (tbOf x3 (f : Int)).length = LL at *
                    clear hk3 hm3 hb3
                    go_wp2_with (first
                      | (go_at_call 16; refine (HPl.out _).mono ?_; rintro e w6 ⟨rfl, rfl⟩)
                      | (go_at_call 52; refine HMe.out.mono ?_; rintro e w6 ⟨rfl, rfl⟩)
                      | (go_at_call 51; refine HTa.out.mono ?_; rintro e w6 ⟨b', rfl, hB, hm6, hkb⟩; have HB6 := Lib.hid (And.intro hB (And.intro hm6 (hkb _ _ _ Hb3.out (by decide) (by decide) (by decide)))); clear hB hm6 hkb)
                      | (go_at_call 34; refine (HSt.out _ _ HB6.out.2.1 HB6.out.1).mono ?_; rintro e w7 ⟨ek, en, x4, y4, rfl, hm7, hkb⟩; have HM7 := Lib.hid (And.intro hm7 (hkb _ _ _ HB6.out.2.2 (by decide) (by decide) (by decide))); have c3 : w7.cell? ⟨wr1, 3, none⟩ = some (.int .i64 oa) := HM7.out.2.cell 3; have cl : wr1 < w7.heap.size := HM7.out.2.lt; clear hm7 hkb)
                      | (go_at_call 33; refine ((HM7.out.1.to (((Fr.refl [] _).alloc _).alloc _)).answer _ _ _ _ (Blk.new' (by simp))).mono ?_; rintro e w8 ⟨ec, y5, rfl, hm8, hkb⟩; have HM8 := Lib.hid (And.intro hm8 (hkb _ _ _ ((HM7.out.2.alloc _).alloc _) (by decide) (by decide) (by decide))); clear hm8 hkb)
                      | fail)
                    · go_roundg (60 - (k + 1))
                      case measure => have := Hk3.out; omega
                      case rel => exact ⟨k + 1, x4, y5, by have := Hk3.out; omega, by go_num, HM8.out.1, HM8.out.2⟩
                    · go_roundg (60 - (k + 1))
                      case measure => have := Hk3.out; omega
                      case rel => exact ⟨k + 1, x4, y4, by have := Hk3.out; omega, by go_num, HM7.out.1.to ((Fr.refl [] _).alloc _), HM7.out.2.alloc _⟩
                  · have hkq' : ¬ (k : Int) < (q : Int) := by omega
                    clear hk3 hm3 hb3
                    go_wp2_with (first
                      | (go_at_call 16; refine (HPl.out _).mono ?_; rintro e w6 ⟨rfl, rfl⟩)
                      | fail)
                    go_roundg (ns - (j + 1))
                    case measure => have := Hj.out; omega
                    case rel => exact ⟨j + 1, x3, by have := Hj.out; omega, by go_num, Hm3.out.i⟩
            · have hlt1 : ¬ (j : Int) < (ns : Int) := by omega
              clear hj ha hlt
              go_wp2_with fail
              go_meet
              exact ⟨x1, Ha.out⟩
        case rest =>
          obtain ⟨x5, ha5⟩ := hcut
          have HA5 := Lib.hid ha5
          clear ha5
          go_wp2_with fail
          go_loopg [24] m (fun gg i wr => ∃ (j : Nat), j + gg = m ∧ i = .int .i64 (j : Int) ∧ ApI W0 wr s p F g gw m f x x5)
          case atStart => exact ⟨0, by omega, rfl, HA5.out⟩
          case round =>
            obtain ⟨j, hj, rfl, ha⟩ := hrel
            have Hj := Lib.hid hj
            have Ha := Lib.hid ha
            by_cases hlt : j < m
            · have hlt1 : (j : Int) < (m : Int) := by omega
              have hj0 : (0 : Int) ≤ (j : Int) := by omega
              have hwk : IntKind.i64.wrap ((j : Int) + 1) = (j : Int) + 1 := IntWalk.i64_in _ (by omega)
              by_cases hjf : j = f
              · have hbe : ((j : Int) != (f : Int)) = false := by rw [hjf]; simp
                clear hj ha hjf
                go_wp2_with fail
                go_quiet (fail)
                go_wp2_with fail
                go_roundg (m - (j + 1))
                case measure => have := Hj.out; omega
                case rel => exact ⟨j + 1, by have := Hj.out; omega, by go_num, Ha.out.to ((Fr.refl [] _).drewN _)⟩
              · obtain ⟨tj, htj, -⟩ := HP1.out.2 j (by rw [← Hl.out]; exact hlt)
                obtain ⟨q1, q2⟩ := ha.oth.all hjf htj
                have HAl := Lib.hid (fun W (h : ApI W0 W s p F g gw m f x x5) => (all_any s p F g x5 (j : Int) W h.d.at_ h.d.ok q1).mono (R' := fun e w' => e = .returned (.string (allS x (j : Int))) ∧ ApI W0 w' s p F g gw m f x x5) (fun e w' ⟨he, hf⟩ => ⟨by rw [he, q2], h.to hf⟩))
                have hbe : ((j : Int) != (f : Int)) = true := by
                  have hji : ¬ (j : Int) = (f : Int) := by omega
                  simpa using hji
                have HK := Lib.hid (fun W (h : ApI W0 W s p F g gw m f x x5) => (show W.cell? ⟨gw, j, none⟩ = some (.string (allS x (j : Int))) by
                  obtain ⟨csw, hbw, hcw⟩ := h.was
                  rw [hbw.cell]
                  exact hcw j hlt))
                have c0 := HK.out _ ha
                generalize allS x (j : Int) = V at *
                clear hj ha hjf htj q1 q2
                go_wp2_with fail
                go_region_held3 (fun W => W.cell? ⟨gw, j, none⟩ = some (.string V)) (first | exact c0 | exact kk) (first
                  | (go_at_call 18; refine (HAl.out _ (Ha.out.to (Fr.refl [] _).drew)).mono ?_; rintro e w3 ⟨rfl, ha3⟩; have kk := HK.out _ ha3))
                go_wp2_with fail
                go_roundg (m - (j + 1))
                case measure => have := Hj.out; omega
                case rel => exact ⟨j + 1, by have := Hj.out; omega, by go_num, ha3⟩
            · have hlt1 : ¬ (j : Int) < (m : Int) := by omega
              have HFz := Lib.hid (H0.out.trans ha.d.fr)
              clear hj ha hlt
              go_wp2_with (first
                | (go_at_call 15; refine (H15.out _).mono ?_; clear H15; rintro e w7 ⟨rfl, hf⟩; have H2 := Lib.hid (HFz.out.trans hf); clear hf)
                | fail)
              go_ret
              exact ⟨rfl, H2.out⟩
theorem apart_walk (b m cap : Nat) (A : Option Addr) (t : List Pg) (w : World) (ht : Tb w b (.slice A m cap) t) (PA : Option Addr) (np pc : Nat) (prs : Nat → ByteArray) (hprs : PrS w PA np prs) (wp : Int) (hwp : -9223372036854775808 ≤ wp ∧ wp ≤ 9223372036854775807) (B : Option Addr) (ns cs : Nat) (ops : Nat → OpS) (ho : OpsS w B ns ops) :
    Calls Try.prog 11 #[.slice A m cap, .slice PA np pc, .agg #[.int .i64 wp, .slice B ns cs]] w fun e w' => e = .returned (.bool true) ∧ Fr [] w w' := by
  by_cases hE : ptsE t = 0
  · exact apart_ok b m cap A t w ht PA np pc prs hprs wp hwp B ns cs ops ho hE
  · exact apart_bad b m cap A t w ht PA np pc wp B ns cs hE
end Go.Proofs.Ytonongaakieciaa

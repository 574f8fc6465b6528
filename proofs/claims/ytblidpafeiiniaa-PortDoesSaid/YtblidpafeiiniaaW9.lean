/- The reference's Send and Receive, one contract each; lists of ports. -/
import Derived.Test.YtblidpafeiiniaaW8
namespace Go.Proofs.Ytblidpafeiiniaa
open Go.RowKit

theorem rsend_any (q : Nat) (s : PS) (N : Nat) (w : World) (m : ByteArray) (t : Int) (h : RAt w q s) (hv : PV s N) (hN : N ≤ 4611686018427387904) (hm : m.size ≤ maxLen) :
    Calls Try.prog 17 #[ptr q, .string m, .int .i64 t] w fun e w' => e = .returned (.int .i64 (sendE s.S m t)) ∧ RAt w' q (sendS s m t) ∧ Fr [q] w w' := by
  have hd := hv.d
  by_cases h1 : t < 0 ∨ 1099511627776 < t
  · refine (rsend_tick q w m t h1).mono ?_
    rintro e w' ⟨rfl, rfl⟩
    exact ⟨by simp [sendE, h1], by rw [sendS, if_pos h1]; exact h, Fr.refl _ _⟩
  · by_cases h2 : s.S < m.size
    · refine (rsend_long q s w m t h (by omega) (by omega) h2 hm).mono ?_
      rintro e w' ⟨rfl, rfl⟩
      exact ⟨by rw [sendE, if_neg h1, if_pos h2], by rw [sendS, if_neg h1, if_pos h2]; exact h, Fr.refl _ _⟩
    · by_cases h3 : s.K = 0
      · refine (rsend_keep q s w m t h (by omega) (by omega) (by omega) hm h3).mono ?_
        rintro e w' ⟨rfl, hp, hf⟩
        exact ⟨by rw [sendE, if_neg h1, if_neg h2], by rw [sendS, if_neg h1, if_neg h2, if_pos h3]; exact hp, hf⟩
      · have hk : s.K = 1 := by have := hv.k01; omega
        by_cases h4 : (s.l.length : Int) = s.D
        · refine (rsend_full q s w m t h (by omega) (by omega) (by omega) hm hk h4 hv.lost0 (by have := hv.lostN; omega)).mono ?_
          rintro e w' ⟨rfl, hp, hf⟩
          exact ⟨by rw [sendE, if_neg h1, if_neg h2], by rw [sendS, if_neg h1, if_neg h2, if_neg h3, if_pos h4]; exact hp, hf⟩
        · refine (rsend_room q s w m t h (by omega) (by omega) (by omega) hm hk (by have := hv.len; omega) hd.2).mono ?_
          rintro e w' ⟨rfl, hp, hf⟩
          exact ⟨by rw [sendE, if_neg h1, if_neg h2], by rw [sendS, if_neg h1, if_neg h2, if_neg h3, if_neg h4]; exact hp, hf⟩

theorem rrecv_any (q : Nat) (s : PS) (N : Nat) (w : World) (t : Int) (h : RAt w q s) (hv : PV s N) :
    Calls Try.prog 18 #[ptr q, .int .i64 t] w fun e w' => e = .returned (.tuple #[.string (recvT s t).1, .int .i64 (recvT s t).2.1, .int .i64 (recvT s t).2.2]) ∧ RAt w' q (recvS s t) ∧ Fr [q] w w' := by
  by_cases h1 : t < 0 ∨ 1099511627776 < t
  · refine (rrecv_tick q w t h1).mono ?_
    rintro e w' ⟨rfl, rfl⟩
    exact ⟨by simp [recvT, h1], by rw [recvS, if_pos h1]; exact h, Fr.refl _ _⟩
  · cases hl : s.l with
    | nil =>
      refine (rrecv_empty q s w t h (by omega) (by omega) hl).mono ?_
      rintro e w' ⟨rfl, rfl⟩
      exact ⟨by simp [recvT, h1, hl], by simp only [recvS, if_neg h1, hl]; exact h, Fr.refl _ _⟩
    | cons x r =>
      obtain ⟨m, tk⟩ := x
      have htk := hv.tick (m, tk) (by rw [hl]; simp)
      by_cases h3 : s.K = 0
      · refine (rrecv_look q s w m tk r t h hl (by omega) (by omega) htk.1 htk.2 h3).mono ?_
        rintro e w' ⟨rfl, hf⟩
        exact ⟨by simp [recvT, h1, hl, h3], by simp only [recvS, if_neg h1, hl, if_pos h3]; exact h.fr hf (by simp) (by simp) (by simp), hf.mono (by simp)⟩
      · refine (rrecv_take q s w m tk r t h hl (by omega) (by omega) (by have := hv.k01; omega)).mono ?_
        rintro e w' ⟨rfl, hp, hf⟩
        exact ⟨by simp [recvT, h1, hl, h3], by simp only [recvS, if_neg h1, hl, if_neg h3]; exact hp, hf⟩

/-- Ports at blocks, in states. -/
def HP (w : World) (ps : List Nat) (sts : List PS) : Prop := ∀ (i p : Nat) (st : PS), ps[i]? = some p → sts[i]? = some st → PortAt w p st
def HQ (w : World) (qs : List Nat) (sts : List PS) : Prop := ∀ (i q : Nat) (st : PS), qs[i]? = some q → sts[i]? = some st → RAt w q st
theorem nodup_get {l : List Nat} (h : l.Nodup) {i j x : Nat} (hi : l[i]? = some x) (hj : l[j]? = some x) : i = j := by
  exact (List.getElem?_inj (List.getElem?_eq_some_iff.1 hi).1 h).1 (hi.trans hj.symm)
section
variable {w w' : World} {ps qs : List Nat} {sts : List PS} {S : List Nat}
theorem HP.fr (h : HP w ps sts) (hf : Fr S w w') (h1 : ∀ k, k ∈ S → ∃ t cs, Blk w k t cs ∧ t ≠ 53 ∧ t ≠ 62) : HP w' ps sts := fun i p st hp hs => by
  refine (h i p st hp hs).fr hf (fun hk => ?_) (fun k hk cs hc => ?_)
  · obtain ⟨t, cs, hb, h2, _⟩ := h1 p hk
    obtain ⟨v, hb', _⟩ := h i p st hp hs
    exact h2 (hb.eq hb').1
  · obtain ⟨t, cs', hb, _, h2⟩ := h1 k hk
    exact h2 (hb.eq hc).1
theorem HQ.fr (h : HQ w qs sts) (hf : Fr S w w') (h1 : ∀ k, k ∈ S → ∃ t cs, Blk w k t cs ∧ t ≠ 50 ∧ t ≠ 9 ∧ t ≠ 3) : HQ w' qs sts := fun i p st hp hs => by
  refine (h i p st hp hs).fr hf (fun hk => ?_) (fun k hk cs hc => ?_) (fun k hk cs hc => ?_)
  · obtain ⟨t, cs, hb, h2, _⟩ := h1 p hk
    obtain ⟨_, _, hb', _⟩ := h i p st hp hs
    exact h2 (hb.eq hb').1
  · obtain ⟨t, cs', hb, _, h2, _⟩ := h1 k hk
    exact h2 (hb.eq hc).1
  · obtain ⟨t, cs', hb, _, _, h2⟩ := h1 k hk
    exact h2 (hb.eq hc).1
theorem HP.turn (h : HP w ps sts) (hn : ps.Nodup) {i p : Nat} {st st' : PS} (hi : ps[i]? = some p) (hst : sts[i]? = some st) (hf : Fr [p] w w') (hp : PortAt w' p st') : HP w' ps (sts.set i st') := by
  intro j p' s' hj hs
  have hpi := h i p st hi hst
  rw [List.getElem?_set] at hs
  by_cases hij : i = j
  · subst hij
    rw [if_pos rfl] at hs
    have hlt : i < sts.length := (List.getElem?_eq_some_iff.1 hst).1
    rw [if_pos hlt] at hs
    rw [hi] at hj
    injection hj with hj
    injection hs with hs
    subst hj; subst hs
    exact hp
  · rw [if_neg hij] at hs
    refine (h j p' s' hj hs).fr hf (fun hk => ?_) (fun k hk cs hc => ?_)
    · simp at hk
      subst hk
      exact hij (nodup_get hn hi hj)
    · simp at hk
      subst hk
      exact hpi.not62 cs hc
theorem HQ.turn (h : HQ w qs sts) (hn : qs.Nodup) {i q : Nat} {st st' : PS} (hi : qs[i]? = some q) (hst : sts[i]? = some st) (hf : Fr [q] w w') (hq : RAt w' q st') : HQ w' qs (sts.set i st') := by
  intro j p' s' hj hs
  have hpi := h i q st hi hst
  rw [List.getElem?_set] at hs
  by_cases hij : i = j
  · subst hij
    rw [if_pos rfl] at hs
    have hlt : i < sts.length := (List.getElem?_eq_some_iff.1 hst).1
    rw [if_pos hlt] at hs
    rw [hi] at hj
    injection hj with hj
    injection hs with hs
    subst hj; subst hs
    exact hq
  · rw [if_neg hij] at hs
    refine (h j p' s' hj hs).fr hf (fun hk => ?_) (fun k hk cs hc => ?_) (fun k hk cs hc => ?_)
    · simp at hk
      subst hk
      exact hij (nodup_get hn hi hj)
    · simp at hk
      subst hk
      exact hpi.nots (by decide) cs hc
    · simp at hk
      subst hk
      exact hpi.nots (by decide) cs hc
theorem HP.blk (h : HP w ps sts) {i p : Nat} {st : PS} (hi : ps[i]? = some p) (hst : sts[i]? = some st) : ∃ cs, Blk w p 53 cs := by
  obtain ⟨v, hb, _⟩ := h i p st hi hst
  exact ⟨_, hb⟩
theorem HQ.blk (h : HQ w qs sts) {i p : Nat} {st : PS} (hi : qs[i]? = some p) (hst : sts[i]? = some st) : ∃ cs, Blk w p 50 cs := by
  obtain ⟨_, _, hb, _⟩ := h i p st hi hst
  exact ⟨_, hb⟩
theorem HP.push (h : HP w ps sts) {p : Nat} {st : PS} (hp : PortAt w p st) (hl : ps.length = sts.length) : HP w (ps ++ [p]) (sts ++ [st]) := by
  intro i p' s' hi hs
  by_cases hlt : i < ps.length
  · rw [List.getElem?_append_left hlt] at hi
    rw [List.getElem?_append_left (by omega)] at hs
    exact h i p' s' hi hs
  · rw [List.getElem?_append_right (by omega)] at hi
    rw [List.getElem?_append_right (by omega)] at hs
    have e : i - ps.length = i - sts.length := by omega
    rw [e] at hi
    cases hj : i - sts.length with
    | zero =>
      rw [hj] at hi hs
      simp at hi hs
      subst hi; subst hs
      exact hp
    | succ n => rw [hj] at hi; simp at hi
theorem HQ.push (h : HQ w qs sts) {p : Nat} {st : PS} (hp : RAt w p st) (hl : qs.length = sts.length) : HQ w (qs ++ [p]) (sts ++ [st]) := by
  intro i p' s' hi hs
  by_cases hlt : i < qs.length
  · rw [List.getElem?_append_left hlt] at hi
    rw [List.getElem?_append_left (by omega)] at hs
    exact h i p' s' hi hs
  · rw [List.getElem?_append_right (by omega)] at hi
    rw [List.getElem?_append_right (by omega)] at hs
    have e : i - qs.length = i - sts.length := by omega
    rw [e] at hi
    cases hj : i - sts.length with
    | zero =>
      rw [hj] at hi hs
      simp at hi hs
      subst hi; subst hs
      exact hp
    | succ n => rw [hj] at hi; simp at hi
theorem HP.alloc (h : HP w ps sts) (o : Obj) : HP (w.alloc o) ps sts := fun i p st hi hs => (h i p st hi hs).alloc o
theorem HQ.alloc (h : HQ w qs sts) (o : Obj) : HQ (w.alloc o) qs sts := fun i p st hi hs => (h i p st hi hs).alloc o
end
/-- What holds at the head of a round of PortDoes. -/
structure DI (w : World) (ps qs : List Nat) (sts : List PS) (N : Nat) (xv yv : Value) (wr : World) : Prop where
  lp : ps.length = sts.length
  lq : qs.length = sts.length
  pos : 0 < sts.length
  lN : sts.length ≤ N + 1
  np : ps.Nodup
  nq : qs.Nodup
  hp : HP wr ps sts
  hq : HQ wr qs sts
  pv : ∀ st, st ∈ sts → PV st N
  ox : wr.ownsRow w.heap.size 25 1 xv ps.length (ps.map ptr)
  oy : wr.ownsRow w.heap.size 40 1 yv qs.length (qs.map ptr)
  gp : ∀ p, p ∈ ps → w.heap.size ≤ p
  gq : ∀ q, q ∈ qs → w.heap.size ≤ q
  fr : Fr [] w wr
section
variable {w wr w1 w2 : World} {ps qs : List Nat} {sts : List PS} {N : Nat} {xv yv : Value}
theorem DI.alloc (h : DI w ps qs sts N xv yv wr) (o : Obj) : DI w ps qs sts N xv yv (wr.alloc o) :=
  ⟨h.lp, h.lq, h.pos, h.lN, h.np, h.nq, h.hp.alloc o, h.hq.alloc o, h.pv, h.ox.alloc o, h.oy.alloc o, h.gp, h.gq, h.fr.alloc o⟩
theorem DI.drew (h : DI w ps qs sts N xv yv wr) : DI w ps qs sts N xv yv wr.drew :=
  ⟨h.lp, h.lq, h.pos, h.lN, h.np, h.nq, h.hp, h.hq, h.pv, h.ox, h.oy, h.gp, h.gq, h.fr.drew⟩
theorem DI.mono (h : DI w ps qs sts N xv yv wr) {M : Nat} (hM : N ≤ M) : DI w ps qs sts M xv yv wr :=
  ⟨h.lp, h.lq, h.pos, by have := h.lN; omega, h.np, h.nq, h.hp, h.hq, fun st hs => (h.pv st hs).mono hM, h.ox, h.oy, h.gp, h.gq, h.fr⟩
/-- The slices' cells. -/
theorem DI.cellX (h : DI w ps qs sts N xv yv wr) {j p : Nat} (hj : ps[j]? = some p) : ∃ g cap, xv = .slice (some ⟨g, 0, none⟩) ps.length cap ∧ wr.cell? ⟨g, j, none⟩ = some (ptr p) ∧ ∃ cs, Blk wr g 25 cs := by
  rcases h.ox.2 with ⟨_, h2⟩ | ⟨g, cap, cur, rfl, _, hh, _⟩
  · have := (List.getElem?_eq_some_iff.1 hj).1; omega
  · refine ⟨g, cap, rfl, ?_, cur, hh⟩
    have := h.ox.cells (g := g) rfl j (ptr p) (by simp [hj])
    rwa [addr_add, Nat.zero_add] at this
theorem DI.cellY (h : DI w ps qs sts N xv yv wr) {j q : Nat} (hj : qs[j]? = some q) : ∃ g cap, yv = .slice (some ⟨g, 0, none⟩) qs.length cap ∧ wr.cell? ⟨g, j, none⟩ = some (ptr q) ∧ ∃ cs, Blk wr g 40 cs := by
  rcases h.oy.2 with ⟨_, h2⟩ | ⟨g, cap, cur, rfl, _, hh, _⟩
  · have := (List.getElem?_eq_some_iff.1 hj).1; omega
  · refine ⟨g, cap, rfl, ?_, cur, hh⟩
    have := h.oy.cells (g := g) rfl j (ptr q) (by simp [hj])
    rwa [addr_add, Nat.zero_add] at this
/-- A port and the reference's turn, in either order. -/
theorem DI.turn (h : DI w ps qs sts N xv yv wr) {j p q : Nat} {st st' : PS} (hp : ps[j]? = some p) (hq : qs[j]? = some q) (hs : sts[j]? = some st) {M : Nat} (hM : N ≤ M) (hv : PV st' M)
    (a : Fr [p, q] wr w2) (hp2 : PortAt w2 p st') (hq2 : RAt w2 q st') (hP : HP w2 ps (sts.set j st')) (hQ : HQ w2 qs (sts.set j st')) : DI w ps qs (sts.set j st') M xv yv w2 := by
  obtain ⟨csp, hbp⟩ := h.hp.blk hp hs
  obtain ⟨csq, hbq⟩ := h.hq.blk hq hs
  have hno : ∀ t, t ≠ 53 → t ≠ 50 → ∀ k, k ∈ [p, q] → ∀ cs, ¬ Blk wr k t cs := by
    intro t h1 h2 k hk cs hc
    simp at hk
    rcases hk with rfl | rfl
    · exact h1 (hc.eq hbp).1
    · exact h2 (hc.eq hbq).1
  refine ⟨by simpa using h.lp, by simpa using h.lq, by simpa using h.pos, by have := h.lN; simp; omega, h.np, h.nq, hP, hQ, ?_, own_fr h.ox a (hno 25 (by decide) (by decide)), own_fr h.oy a (hno 40 (by decide) (by decide)), h.gp, h.gq, h.fr.step a ?_⟩
  · intro x hx
    rcases List.mem_or_eq_of_mem_set hx with hx | rfl
    · exact (h.pv x hx).mono hM
    · exact hv
  · intro k hk
    simp at hk
    rcases hk with rfl | rfl
    · exact .inr (h.gp _ (List.mem_of_getElem? hp))
    · exact .inr (h.gq _ (List.mem_of_getElem? hq))
/-- First the port, then the reference. -/
theorem DI.pq (h : DI w ps qs sts N xv yv wr) {j p q : Nat} {st st' : PS} (hp : ps[j]? = some p) (hq : qs[j]? = some q) (hs : sts[j]? = some st) {M : Nat} (hM : N ≤ M) (hv : PV st' M)
    (f1 : Fr [p] wr w1) (hp1 : PortAt w1 p st') (f2 : Fr [q] w1 w2) (hq2 : RAt w2 q st') : DI w ps qs (sts.set j st') M xv yv w2 := by
  obtain ⟨csp, hbp⟩ := h.hp.blk hp hs
  obtain ⟨csq, hbq⟩ := h.hq.blk hq hs
  have hne : q ≠ p := hbq.ne_ hbp (by decide)
  have hbq1 := hbq.fr f1 (by simp [hne])
  have P1 := h.hp.turn h.np hp hs f1 hp1
  have Q1 := h.hq.fr f1 (fun k hk => by simp at hk; subst hk; exact ⟨53, csp, hbp, by decide, by decide, by decide⟩)
  have Q2 := Q1.turn h.nq hq hs f2 hq2
  have P2 := P1.fr f2 (fun k hk => by simp at hk; subst hk; exact ⟨50, csq, hbq1, by decide, by decide⟩)
  exact h.turn hp hq hs hM hv ((f1.mono (by simp)).trans (f2.mono (by simp))) (P2 j p st' hp (by simp [(List.getElem?_eq_some_iff.1 hs).1])) hq2 P2 Q2
/-- First the reference, then the port. -/
theorem DI.qp (h : DI w ps qs sts N xv yv wr) {j p q : Nat} {st st' : PS} (hp : ps[j]? = some p) (hq : qs[j]? = some q) (hs : sts[j]? = some st) {M : Nat} (hM : N ≤ M) (hv : PV st' M)
    (f1 : Fr [q] wr w1) (hq1 : RAt w1 q st') (f2 : Fr [p] w1 w2) (hp2 : PortAt w2 p st') : DI w ps qs (sts.set j st') M xv yv w2 := by
  obtain ⟨csp, hbp⟩ := h.hp.blk hp hs
  obtain ⟨csq, hbq⟩ := h.hq.blk hq hs
  have hne : p ≠ q := hbp.ne_ hbq (by decide)
  have hbp1 := hbp.fr f1 (by simp [hne])
  have Q1 := h.hq.turn h.nq hq hs f1 hq1
  have P1 := h.hp.fr f1 (fun k hk => by simp at hk; subst hk; exact ⟨50, csq, hbq, by decide, by decide⟩)
  have P2 := P1.turn h.np hp hs f2 hp2
  have Q2 := Q1.fr f2 (fun k hk => by simp at hk; subst hk; exact ⟨53, csp, hbp1, by decide, by decide, by decide⟩)
  exact h.turn hp hq hs hM hv ((f1.mono (by simp)).trans (f2.mono (by simp))) hp2 (Q2 j q st' hq (by simp [(List.getElem?_eq_some_iff.1 hs).1])) P2 Q2
end
end Go.Proofs.Ytblidpafeiiniaa

/- PortDoes' walk. -/
import Derived.Test.YtblidpafeiiniaaW9
import Derived.Test.YtblidpafeiiniaaOps
import Derived.Deep.DeepCutAuto
import Derived.Deep.CutBlock
import Derived.Deep.LoopGhost
import Derived.Deep.DeepMust
import Derived.Deep.RegionHeld3
namespace Go.Proofs.Ytblidpafeiiniaa
open Go.RowKit

theorem Try.info25 : (Try.prog.info? 25).map (fun i => (i.zero, i.size, i.bytes)) = some (some (.pointer none), 1, 8) := by kernel_rfl
theorem Try.info40 : (Try.prog.info? 40).map (fun i => (i.zero, i.size, i.bytes)) = some (some (.pointer none), 1, 8) := by kernel_rfl

set_option maxRecDepth 100000 in
set_option maxHeartbeats 1000000 in
theorem does_no (K F T S D : Int) (sv : Value) (w : World) (hok : okC K F T S D = false) :
    Calls Try.prog 6 #[cfg K F T S D, sv] w fun e w' => e = .returned (.bool true) ∧ Fr [] w w' := by
  have hcfg : ∀ w, Calls Try.prog 7 #[.agg #[.int .i64 K, .int .i64 F, .int .i64 T, .int .i64 S, .int .i64 D]] w fun e w' => e = .returned (.tuple #[.pointer none, .int .i64 140]) ∧ Fr [] w w' := fun w => new_no K F T S D w hok
  have hrcfg : ∀ w, Calls Try.prog 14 #[.agg #[.int .i64 K, .int .i64 F, .int .i64 T, .int .i64 S, .int .i64 D]] w fun e w' => e = .returned (.tuple #[.pointer none, .int .i64 140]) ∧ Fr [] w w' := fun w => rnew_no K F T S D w hok
  have hck : ∀ w, Calls Try.prog 15 #[.agg #[.int .i64 K, .int .i64 F, .int .i64 T, .int .i64 S, .int .i64 D]] w fun e w' => e = .returned (.int .i64 140) ∧ Fr [] w w' := fun w => check_no K F T S D w hok
  have Hcfg := Lib.hid hcfg; clear hcfg
  have Hrcfg := Lib.hid hrcfg; clear hrcfg
  have Hck := Lib.hid hck; clear hck hok
  unfold cfg
  go_enter Try.func6, Try.ntmps6
  have hc0 := fun (w1 : World) (hf : Fr [] (w.alloc (.cells #[.int .i64 K, .int .i64 F, .int .i64 T, .int .i64 S, .int .i64 D] 23)) w1) (i : Nat) => hf.cell (p := ⟨w.heap.size, i, none⟩) (by simp) (by simp)
  have Hc0 := Lib.hid hc0; clear hc0
  go_wp2_with (first
    | (go_at_call 7; go_must ((with_reducible refine (Hcfg.out _).mono ?_); rintro e w1 ⟨rfl, hf1⟩; have hcc := Hc0.out _ hf1))
    | (go_at_call 14; go_must ((with_reducible refine (Hrcfg.out _).mono ?_); rintro e w2 ⟨rfl, hf2⟩; have hcd := Hc0.out _ (hf1.trans hf2)))
    | (go_at_call 15; go_must ((with_reducible refine (Hck.out _).mono ?_); rintro e w3 ⟨rfl, hf3⟩))
    | (go_at_call 9; go_must ((with_reducible refine (fixed_any _).mono ?_); rintro e w4 ⟨rfl, hf4⟩)))
  go_ret
  exact ⟨rfl, ((((Fr.refl _ _).alloc _).trans hf1).trans hf2).trans (hf3.trans hf4)⟩

/-- What holds at the head of a round, of which nothing but this is known. -/
def DInv (w : World) (N : Nat) (xv yv : Value) (wr : World) : Prop := ∃ (ps qs : List Nat) (sts : List PS), DI w ps qs sts N xv yv wr

/-- What holds behind the switch. -/
def DCut (w : World) (N j : Nat) (xv yv : Value) (wr : World) : Prop :=
  ∃ (ps qs : List Nat) (sts : List PS) (p q : Nat) (st : PS) (m c1 c2 : Nat) (A1 A2 : Option Addr), xv = .slice A1 m c1 ∧ yv = .slice A2 m c2 ∧ DI w ps qs sts N xv yv wr ∧ ps[j]? = some p ∧ qs[j]? = some q ∧ sts[j]? = some st

theorem HQ.at_ {w : World} {qs : List Nat} {sts : List PS} (h : HQ w qs sts) {i q : Nat} {st : PS} (hq : qs[i]? = some q) (hs : sts[i]? = some st) : RAt w q st := h i q st hq hs
theorem HP.at_ {w : World} {qs : List Nat} {sts : List PS} (h : HP w qs sts) {i q : Nat} {st : PS} (hq : qs[i]? = some q) (hs : sts[i]? = some st) : PortAt w q st := h i q st hq hs
theorem DI.drewN {w wr : World} {ps qs : List Nat} {sts : List PS} {N : Nat} {xv yv : Value} (h : DI w ps qs sts N xv yv wr) (n : Nat) : DI w ps qs sts N xv yv (wr.drewN n) :=
  ⟨h.lp, h.lq, h.pos, h.lN, h.np, h.nq, h.hp, h.hq, h.pv, h.ox, h.oy, h.gp, h.gq, h.fr.drewN n⟩
theorem keep4 {w w' : World} {S : List Nat} {a b c : Nat} {i j x y : Nat} {u v s t : Value} (h : Fr S w w') (h1 : w.cell? ⟨a, i, none⟩ = some u) (h2 : w.cell? ⟨b, j, none⟩ = some v) (h3 : w.cell? ⟨c, x, none⟩ = some s) (h4 : w.cell? ⟨c, y, none⟩ = some t) (n1 : a ∉ S) (n2 : b ∉ S) (n3 : c ∉ S) :
    w'.cell? ⟨a, i, none⟩ = some u ∧ w'.cell? ⟨b, j, none⟩ = some v ∧ w'.cell? ⟨c, x, none⟩ = some s ∧ w'.cell? ⟨c, y, none⟩ = some t :=
  ⟨h.cell_some h1 n1, h.cell_some h2 n2, h.cell_some h3 n3, h.cell_some h4 n3⟩
section
variable {w W w1 w2 : World} {ps qs : List Nat} {sts : List PS} {k : Nat} {xv yv : Value} {j p q : Nat} {st st' : PS}
theorem DInv.pq (h : DI w ps qs sts k xv yv W) (hp : ps[j]? = some p) (hq : qs[j]? = some q) (hs : sts[j]? = some st) (hv : PV st' (k + 1))
    (f1 : Fr [p] W.drew w1) (hp1 : PortAt w1 p st') (f2 : Fr [q] w1 w2) (hq2 : RAt w2 q st') : DI w ps qs (sts.set j st') (k + 1) xv yv w2 ∧ ps[j]? = some p ∧ qs[j]? = some q ∧ (sts.set j st')[j]? = some st' :=
  ⟨h.drew.pq hp hq hs (by omega) hv f1 hp1 f2 hq2, hp, hq, by simp [(List.getElem?_eq_some_iff.1 hs).1]⟩
theorem DInv.qp (h : DI w ps qs sts k xv yv W) (hp : ps[j]? = some p) (hq : qs[j]? = some q) (hs : sts[j]? = some st) (hv : PV st' (k + 1))
    (f1 : Fr [q] W.drew w1) (hq1 : RAt w1 q st') (f2 : Fr [p] w1 w2) (hp2 : PortAt w2 p st') : DI w ps qs (sts.set j st') (k + 1) xv yv w2 ∧ ps[j]? = some p ∧ qs[j]? = some q ∧ (sts.set j st')[j]? = some st' :=
  ⟨h.drew.qp hp hq hs (by omega) hv f1 hq1 f2 hp2, hp, hq, by simp [(List.getElem?_eq_some_iff.1 hs).1]⟩
/-- In the midst of a clone: the port has been cloned, its pointer appended. -/
structure DM (w : World) (ps qs : List Nat) (sts : List PS) (p2 : Nat) (st : PS) (yv : Value) (wr : World) : Prop where
  hp : HP wr (ps ++ [p2]) (sts ++ [st])
  hq : HQ wr qs sts
  oy : wr.ownsRow w.heap.size 40 1 yv qs.length (qs.map ptr)
  fr : Fr [] w wr
  np : (ps ++ [p2]).Nodup
  gp : ∀ p, p ∈ ps ++ [p2] → w.heap.size ≤ p
theorem DI.cloneX (h : DI w ps qs sts k xv yv W) (hp : ps[j]? = some p) (hq : qs[j]? = some q) (hs : sts[j]? = some st) {p2 : Nat} (hpe : W.heap.size ≤ p2) (hp3 : PortAt w1 p2 st) (hf : Fr [] W w1) {o : Obj} {n : Nat} {xs : List Value} (hox : (w1.alloc o).ownsRow w.heap.size 25 1 xv n xs) (hg : (w1.alloc o).grownBy w2 xv.ownBlock) :
    DM w ps qs sts p2 st yv w2 := by
  have hno : ∀ i, i ∈ xv.ownBlock.toList → ∃ cs, Blk (w1.alloc o) i 25 cs := fun i hi => by have := own_blk hox i hi; exact this.2
  have P1 := ((h.hp.fr hf (by simp)).push hp3 h.lp).alloc o
  have Q1 := (h.hq.fr hf (by simp)).alloc o
  have hfo := Fr.of_own hg
  have hlt : ∀ p, p ∈ ps → p < W.heap.size := by
    intro x hx
    obtain ⟨i, hi⟩ := List.getElem?_of_mem hx
    have hl : i < ps.length := (List.getElem?_eq_some_iff.1 hi).1
    obtain ⟨cs, hb⟩ := h.hp.blk hi (List.getElem?_eq_getElem (by have := h.lp; omega))
    exact hb.lt
  refine ⟨P1.fr hfo (fun i hi => ?_), Q1.fr hfo (fun i hi => ?_), own_fr ((own_fr h.oy hf (by simp)).alloc o) hfo (fun i hi cs hc => ?_), ((h.fr.trans hf).alloc o).own hox hg, ?_, ?_⟩
  · obtain ⟨cs, hb⟩ := hno i hi
    exact ⟨25, cs, hb, by decide, by decide⟩
  · obtain ⟨cs, hb⟩ := hno i hi
    exact ⟨25, cs, hb, by decide, by decide, by decide⟩
  · obtain ⟨cs', hb⟩ := hno i hi
    have := (hb.eq hc).1
    simp at this
  · rw [List.nodup_append]
    refine ⟨h.np, by simp, ?_⟩
    intro a ha b hb
    simp at hb
    have := hlt a ha
    omega
  · intro x hx
    simp at hx
    rcases hx with hx | rfl
    · exact h.gp x hx
    · have := h.fr.size; omega
theorem DM.cellY {p2 g m c : Nat} (h : DM w ps qs sts p2 st (.slice (some ⟨g, 0, none⟩) m c) W) {j q : Nat} (hj : qs[j]? = some q) : W.cell? ⟨g, j, none⟩ = some (ptr q) := by
  have := h.oy.cells (g := g) rfl j (ptr q) (by simp [hj])
  rwa [addr_add, Nat.zero_add] at this
theorem DM.cloneY {p2 : Nat} {xv' yv' : Value} {n' : Nat} (h : DM w ps qs sts p2 st yv W) (h0 : DI w ps qs sts k xv yv w1) (hst : PV st (k + 1)) {xs : List Value} (hx : xs = ps.map ptr ++ [ptr p2]) (hox : W.ownsRow w.heap.size 25 1 xv' n' xs) (hn : n' = ps.length + 1)
    {q2 : Nat} {w3 w4 : World} (hqe : W.heap.size ≤ q2) (hq3 : RAt w3 q2 st) (hf : Fr [] W w3) {o : Obj} {n : Nat} {ys ys' : List Value} (hoy : (w3.alloc o).ownsRow w.heap.size 40 1 yv n ys) (hg : (w3.alloc o).grownBy w4 yv.ownBlock)
    (hy : ys' = qs.map ptr ++ [ptr q2]) (hoy' : w4.ownsRow w.heap.size 40 1 yv' (qs.length + 1) ys') : DI w (ps ++ [p2]) (qs ++ [q2]) (sts ++ [st]) (k + 1) xv' yv' w4 := by
  subst hx; subst hy; subst hn
  have hno : ∀ i, i ∈ yv.ownBlock.toList → ∃ cs, Blk (w3.alloc o) i 40 cs := fun i hi => by have := own_blk hoy i hi; exact this.2
  have hfo := Fr.of_own hg
  have Q1 := ((h.hq.fr hf (by simp)).push hq3 h0.lq).alloc o
  have P1 := (h.hp.fr hf (by simp)).alloc o
  have hlt : ∀ q, q ∈ qs → q < W.heap.size := by
    intro x hx
    obtain ⟨i, hi⟩ := List.getElem?_of_mem hx
    have hl : i < qs.length := (List.getElem?_eq_some_iff.1 hi).1
    obtain ⟨cs, hb⟩ := h.hq.blk hi (List.getElem?_eq_getElem (by have := h0.lq; omega))
    exact hb.lt
  refine ⟨by simp [h0.lp], by simp [h0.lq], by simp, by have := h0.lN; simp; omega, h.np, ?_, P1.fr hfo (fun i hi => ?_), Q1.fr hfo (fun i hi => ?_), ?_, ?_, by simpa using hoy', h.gp, ?_, ((h.fr.trans hf).alloc o).own hoy hg⟩
  · rw [List.nodup_append]
    refine ⟨h0.nq, by simp, ?_⟩
    intro a ha b hb
    simp at hb
    have := hlt a ha
    omega
  · obtain ⟨cs, hb⟩ := hno i hi
    exact ⟨40, cs, hb, by decide, by decide⟩
  · obtain ⟨cs, hb⟩ := hno i hi
    exact ⟨40, cs, hb, by decide, by decide, by decide⟩
  · intro x hx
    simp at hx
    rcases hx with hx | rfl
    · exact (h0.pv x hx).mono (by omega)
    · exact hst
  · have hox1 := (own_fr hox hf (by simp)).alloc o
    have := own_fr hox1 hfo (fun i hi cs hc => by obtain ⟨cs', hb⟩ := hno i hi; have := (hb.eq hc).1; simp at this)
    simpa using this
  · intro x hx
    simp at hx
    rcases hx with hx | rfl
    · exact h0.gq x hx
    · have := h.fr.size; omega
theorem DInv.pq' (h : DI w ps qs sts k xv yv W) (hp : ps[j]? = some p) (hq : qs[j]? = some q) (hs : sts[j]? = some st) (hv : PV st' (k + 1))
    (f1 : Fr [p] W w1) (hp1 : PortAt w1 p st') (f2 : Fr [q] w1 w2) (hq2 : RAt w2 q st') : DI w ps qs (sts.set j st') (k + 1) xv yv w2 ∧ ps[j]? = some p ∧ qs[j]? = some q ∧ (sts.set j st')[j]? = some st' :=
  ⟨h.pq hp hq hs (by omega) hv f1 hp1 f2 hq2, hp, hq, by simp [(List.getElem?_eq_some_iff.1 hs).1]⟩
theorem recv_at' (p : Nat) (s : PS) (N : Nat) (w : World) (t : Int) (h : PortAt w p s) (hv : PV s N) :
    Calls Try.prog 10 #[ptr p, .int .i64 t] w fun e w' => e = .returned (.tuple #[.string (recvT s t).1, .int .i64 (recvT s t).2.1, .int .i64 (recvT s t).2.2]) ∧ PortAt w' p (recvS s t) ∧ Fr [p] w w' := recv_any p s N w t h hv
theorem DCut.mk {m c1 c2 : Nat} {A1 A2 : Option Addr} (h : DI w ps qs sts k (.slice A1 m c1) (.slice A2 m c2) W) (h2 : ps[j]? = some p ∧ qs[j]? = some q ∧ sts[j]? = some st) : DCut w k j (.slice A1 m c1) (.slice A2 m c2) W :=
  ⟨ps, qs, sts, p, q, st, m, c1, c2, A1, A2, rfl, rfl, h, h2⟩
end

set_option maxRecDepth 100000 in
set_option maxHeartbeats 4000000 in
theorem does_ok (K F T S D : Int) (A : Option Addr) (n cap : Nat) (ops : Nat → OpD) (w : World) (hok : okC K F T S D = true) (hs : OpsIn w (.slice A n cap) n ops) (hnN : n ≤ 4398046511104) (hOn : ∀ i, i < n → -9223372036854775808 ≤ (ops i).On ∧ (ops i).On ≤ 9223372036854775807) :
    Calls Try.prog 6 #[cfg K F T S D, .slice A n cap] w fun e w' => e = .returned (.bool true) ∧ Fr [] w w' := by
  have hcfg : ∀ w, Calls Try.prog 7 #[.agg #[.int .i64 K, .int .i64 F, .int .i64 T, .int .i64 S, .int .i64 D]] w (NewOk w (ps0 K F T S D)) := fun w => new_ok K F T S D w hok
  have hrcfg : ∀ w, Calls Try.prog 14 #[.agg #[.int .i64 K, .int .i64 F, .int .i64 T, .int .i64 S, .int .i64 D]] w (RNewOk w (ps0 K F T S D)) := fun w => rnew_ok K F T S D w hok
  have hck : ∀ w, Calls Try.prog 15 #[.agg #[.int .i64 K, .int .i64 F, .int .i64 T, .int .i64 S, .int .i64 D]] w fun e w' => e = .returned (.int .i64 0) ∧ Fr [] w w' := fun w => check_ok K F T S D w hok
  have Hok := Lib.hid hok; clear hok
  have Hcfg := Lib.hid hcfg; clear hcfg
  have Hrcfg := Lib.hid hrcfg; clear hrcfg
  have Hck := Lib.hid hck; clear hck
  have Hs := Lib.hid hs; clear hs
  have HOn := Lib.hid hOn; clear hOn
  obtain ⟨i5, hi5, ha0, ha1, ha2⟩ := info3 Try.info25
  obtain ⟨i4, hi4, hb0, hb1, hb2⟩ := info3 Try.info40
  unfold cfg
  go_enter Try.func6, Try.ntmps6
  have hc0 := fun (w1 : World) (hf : Fr [] (w.alloc (.cells #[.int .i64 K, .int .i64 F, .int .i64 T, .int .i64 S, .int .i64 D] 23)) w1) (i : Nat) => hf.cell (p := ⟨w.heap.size, i, none⟩) (by simp) (by simp)
  have Hc0 := Lib.hid hc0; clear hc0
  go_wp2_with (first
    | (go_at_call 7; go_must ((with_reducible refine (Hcfg.out _).mono ?_); rintro e w1 ⟨p, rfl, hpe, hp1, hf1⟩; have hcc := Hc0.out _ hf1))
    | (go_at_call 14; go_must ((with_reducible refine (Hrcfg.out _).mono ?_); rintro e w2 ⟨q, rfl, hqe, hq2, hf2⟩; have hcd := Hc0.out _ (hf1.trans hf2)))
    | (go_at_call 15; go_must ((with_reducible refine (Hck.out _).mono ?_); rintro e w3 ⟨rfl, hf3⟩))
    | fail)
  simp only [World.size_alloc] at hpe
  have hw3 : Fr [] w w3 := ((((Fr.refl _ _).alloc _).trans hf1).trans hf2).trans hf3
  have hws := hw3.size
  have hw1s := hf1.size
  simp at hw1s
  have hp3 := (hp1.fr hf2 (by simp) (by simp)).fr hf3 (by simp) (by simp)
  have hq3 := hq2.fr hf3 (by simp) (by simp) (by simp)
  have hI : DI w [p] [q] [ps0 K F T S D] 0 (.slice (some ⟨w3.heap.size, 0, none⟩) 1 1) (.slice (some ⟨w3.heap.size + 1, 0, none⟩) 1 1) ((w3.alloc (.cells #[ptr p] 25)).alloc (.cells #[ptr q] 40)) := by
    refine ⟨rfl, rfl, by simp, by simp, by simp, by simp, ?_, ?_, by simp; exact PV.new Hok.out, ⟨rfl, .inr ⟨w3.heap.size, 1, #[ptr p], rfl, hws, ?_, by simp, by simp [maxLen], rfl, rfl⟩⟩, ⟨rfl, .inr ⟨w3.heap.size + 1, 1, #[ptr q], rfl, by omega, ?_, by simp, by simp [maxLen], rfl, rfl⟩⟩, by simp; omega, by simp; omega, (hw3.alloc _).alloc _⟩
    · intro i x st hi hs
      cases i with
      | zero => simp at hi hs; subst hi; subst hs; exact (hp3.alloc _).alloc _
      | succ i => simp at hi
    · intro i x st hi hs
      cases i with
      | zero => simp at hi hs; subst hi; subst hs; exact (hq3.alloc _).alloc _
      | succ i => simp at hi
    · exact (Blk.new w3 25 #[ptr p]).alloc _
    · exact Blk.new' (by simp)
  have HI0 := Lib.hid hI
  clear hI hcc hcd hp1 hq2 hf1 hf2 hf3 hpe hqe hw3 hws hw1s hp3 hq3 Hc0
  go_loopg [9, 10, 11] n (fun g xv yv i wr => ∃ (k m c1 c2 : Nat) (A1 A2 : Option Addr), k + g = n ∧ i = .int .i64 k ∧ xv = .slice A1 m c1 ∧ yv = .slice A2 m c2 ∧ DInv w k (.slice A1 m c1) (.slice A2 m c2) wr)
  case atStart => exact ⟨0, _, _, _, _, _, by omega, rfl, rfl, rfl, _, _, _, HI0.out⟩
  case round =>
    obtain ⟨k, m, c1, c2, A1, A2, hk, rfl, rfl, rfl, ps, qs, sts, hI⟩ := hrel
    have HI := Lib.hid hI
    have Hk := Lib.hid hk
    have hml : m = ps.length := by
      rcases hI.ox.2 with ⟨h1, h2⟩ | ⟨g, cap', cur, h1, _⟩
      · have := hI.pos; have := hI.lp; omega
      · injection h1
    have hmN : m ≤ n + 1 := by have := hI.lN; have := hI.lp; omega
    have hm0 : 0 < m := by have := hI.pos; have := hI.lp; omega
    by_cases hlt : k < n
    · obtain ⟨b, off, hA, hbl, c0, c1', c2', c3⟩ := (Hs.out.fr hI.fr).at_ hlt
      subst hA
      have hOnk := HOn.out k hlt
      have Hsz := Lib.hid (ops k).hS
      have hbw : b < w.heap.size := by
        obtain ⟨b', off', hA', hbl', _⟩ := Hs.out.at_ hlt
        injection hA' with hA'; injection hA' with hb' _
        omega
      generalize ops k = o at *
      obtain ⟨j, hj, hjm⟩ : ∃ j : Nat, o.On % (m : Int) = (j : Int) ∧ j < m := by
        have h1 := Int.emod_nonneg o.On (by omega : (m : Int) ≠ 0)
        have h2 := Int.emod_lt_of_pos o.On (by omega : (0 : Int) < m)
        exact ⟨(o.On % (m : Int)).toNat, by omega, by omega⟩
      obtain ⟨p', hpj⟩ : ∃ x, ps[j]? = some x := ⟨_, List.getElem?_eq_getElem (by omega)⟩
      obtain ⟨q', hqj⟩ : ∃ x, qs[j]? = some x := ⟨_, List.getElem?_eq_getElem (by have := hI.lp; have := hI.lq; omega)⟩
      obtain ⟨st, hsj⟩ : ∃ x, sts[j]? = some x := ⟨_, List.getElem?_eq_getElem (by have := hI.lp; omega)⟩
      have hstv := hI.pv st (List.mem_of_getElem? hsj)
      have hplace := fun w => place_any o.On (m : Int) w (by omega) (by omega) hOnk.1 hOnk.2
      rw [hj] at hplace
      have Hplace := Lib.hid hplace
      have Hml := Lib.hid hml
      clear hplace hj hk hml
      obtain ⟨gx, capx, hx1, hx2, cx, hx3⟩ := hI.cellX hpj
      obtain ⟨gy, capy, hy1, hy2, cy, hy3⟩ := hI.cellY hqj
      injection hx1 with hx1 e1 e2
      clear e1 e2
      injection hy1 with hy1 e1 e2
      clear e1 e2
      subst hx1; subst hy1
      have hPj := hI.hp j p' st hpj hsj
      have hQj := hI.hq j q' st hqj hsj
      have Hpj := Lib.hid hpj
      have Hqj := Lib.hid hqj
      have Hsj := Lib.hid hsj
      clear hpj hqj hsj hI
      have hj0 : (0 : Int) ≤ (j : Int) := by omega
      have hj1 : (j : Int) < (m : Int) := by omega
      have hgxl := hx3.lt
      have hgyl := hy3.lt
      have Hbx : Hid (b ≠ p' ∧ b ≠ q' ∧ gx ≠ p' ∧ gx ≠ q' ∧ gy ≠ p' ∧ gy ≠ q' ∧ wr.heap.size ≠ p' ∧ wr.heap.size ≠ q') := Lib.hid (by
        obtain ⟨_, hb1, -⟩ := hPj
        obtain ⟨_, _, hb2, -⟩ := hQj
        have h1 := HI.out.gp p' (List.mem_of_getElem? Hpj.out)
        have h2 := HI.out.gq q' (List.mem_of_getElem? Hqj.out)
        have h3 := hb1.lt
        have h4 := hb2.lt
        exact ⟨by omega, by omega, hx3.ne_ hb1 (by decide), hx3.ne_ hb2 (by decide), hy3.ne_ hb1 (by decide), hy3.ne_ hb2 (by decide), by omega, by omega⟩)
      have HIa := Lib.hid (HI.out.alloc (.cells #[.int .i64 o.On, .int .i64 o.Kind, .int .i64 o.Tick, .string o.S] 33))
      have HPa := Lib.hid (hPj.alloc (.cells #[.int .i64 o.On, .int .i64 o.Kind, .int .i64 o.Tick, .string o.S] 33))
      have HQa := Lib.hid (hQj.alloc (.cells #[.int .i64 o.On, .int .i64 o.Kind, .int .i64 o.Tick, .string o.S] 33))
      have hOb := Blk.new wr 33 #[.int .i64 o.On, .int .i64 o.Kind, .int .i64 o.Tick, .string o.S]
      have Hob := Lib.hid hOb
      have hmN2 : m ≤ 4398046511105 := by omega
      clear hPj hQj hOb hx3 hy3
      go_upto_block 2 with (first
        | (go_at_call 16; go_must ((with_reducible refine (Hplace.out _).mono ?_); rintro e w2 ⟨rfl, rfl⟩))
        | fail)
      go_cut [9, 10] (fun xv yv wx => DCut w (k + 1) j xv yv wx)
      case first =>
        generalize hW : wr.alloc (.cells #[.int .i64 o.On, .int .i64 o.Kind, .int .i64 o.Tick, .string o.S] 33) = W at *
        have x2 : W.cell? ⟨gx, j, none⟩ = some (ptr p') := by rw [← hW]; exact ((Fr.refl [] wr).alloc _).cell_some hx2 (by simp)
        have y2 : W.cell? ⟨gy, j, none⟩ = some (ptr q') := by rw [← hW]; exact ((Fr.refl [] wr).alloc _).cell_some hy2 (by simp)
        have o1 := Hob.out.cell 1
        have o2 := Hob.out.cell 2
        have o3 := Hob.out.cell 3
        simp at o1 o2 o3
        have ho : wr.heap.size < W.heap.size := Hob.out.lt
        have hgx2 : gx < W.heap.size := by omega
        have hgy2 : gy < W.heap.size := by omega
        clear hW hx2 hy2 c0 c1' c2' c3 hbl
        generalize wr.heap.size = ob at *
        have hkN : k ≤ 4611686018427387904 := by omega
        have tok : True := trivial
        by_cases k0 : o.Kind = 0
        · have t0 : (o.Kind == 0) = true := by simp [k0]
          clear k0
          have hPd : PortAt W.drew p' st := HPa.out
          have hQd : RAt W.drew q' st := HQa.out
          have nn : Hid (q' ≠ p') := Lib.hid (by obtain ⟨_, h1, -⟩ := hPd; obtain ⟨_, _, h2, -⟩ := hQd; exact h2.ne_ h1 (by decide))
          go_wp2_with fail
          go_region_held3 (fun w' => w'.cell? ⟨gx, j, none⟩ = some (ptr p') ∧ w'.cell? ⟨gy, j, none⟩ = some (ptr q') ∧ w'.cell? ⟨ob, 2, none⟩ = some (.int .i64 o.Tick) ∧ w'.cell? ⟨ob, 3, none⟩ = some (.string o.S))
            (first
              | exact ⟨x2, y2, o2, o3⟩
              | exact kk
              | exact ll)
            ((first
              | (go_at_call 12; have _t := tok; (with_reducible refine (send_at p' st k st.S _ _ _ hPd hstv hkN Hsz.out rfl).mono ?_); rintro e w3 ⟨rfl, hp3, hf3⟩; have hq3 := hQd.fr hf3 (by simp; exact nn.out) (fun i hi cs hc => (by simp at hi; subst hi; obtain ⟨_, h1, -⟩ := hPd; have := (hc.eq h1).1; simp at this)) (fun i hi cs hc => (by simp at hi; subst hi; obtain ⟨_, h1, -⟩ := hPd; have := (hc.eq h1).1; simp at this)); have kk := keep4 hf3 x2 y2 o2 o3 (by simp; exact Hbx.out.2.2.1) (by simp; exact Hbx.out.2.2.2.2.1) (by simp; exact Hbx.out.2.2.2.2.2.2.1); clear tok)
              | (go_at_call 17; (with_reducible refine (rsend_any q' st k _ _ _ hq3 hstv hkN Hsz.out).mono ?_); rintro e w4 ⟨rfl, hq4, hf4⟩; have hII := DInv.pq HIa.out Hpj.out Hqj.out Hsj.out (hstv.send o.S o.Tick) hf3 hp3 hf4 hq4; have ll := keep4 hf4 kk.1 kk.2.1 kk.2.2.1 kk.2.2.2 (by simp; exact Hbx.out.2.2.2.1) (by simp; exact Hbx.out.2.2.2.2.2.1) (by simp; exact Hbx.out.2.2.2.2.2.2.2))
              | (go_at_call 17; have _t := tok; (with_reducible refine (rsend_any q' st k _ _ _ hQd hstv hkN Hsz.out).mono ?_); rintro e w3 ⟨rfl, hq3, hf3⟩; have hp3 := hPd.fr hf3 (by simp; exact fun h => nn.out h.symm) (fun i hi cs hc => (by simp at hi; subst hi; obtain ⟨_, _, h1, -⟩ := hQd; have := (hc.eq h1).1; simp at this)); have kk := keep4 hf3 x2 y2 o2 o3 (by simp; exact Hbx.out.2.2.2.1) (by simp; exact Hbx.out.2.2.2.2.2.1) (by simp; exact Hbx.out.2.2.2.2.2.2.2); clear tok)
              | (go_at_call 12; (with_reducible refine (send_at p' st k st.S _ _ _ hp3 hstv hkN Hsz.out rfl).mono ?_); rintro e w4 ⟨rfl, hp4, hf4⟩; have hII := DInv.qp HIa.out Hpj.out Hqj.out Hsj.out (hstv.send o.S o.Tick) hf3 hq3 hf4 hp4; have ll := keep4 hf4 kk.1 kk.2.1 kk.2.2.1 kk.2.2.2 (by simp; exact Hbx.out.2.2.1) (by simp; exact Hbx.out.2.2.2.2.1) (by simp; exact Hbx.out.2.2.2.2.2.2.1))))
          all_goals
            go_wp2_with fail
            go_meet
            exact DCut.mk hII.1 hII.2
        · have t0 : (o.Kind == 0) = false := by rw [beq_eq_false_iff_ne]; exact k0
          clear k0
          by_cases k1 : o.Kind = 1
          · have t1 : (o.Kind == 1) = true := by simp [k1]
            clear k1
            have hPd : PortAt W.drew p' st := HPa.out
            have hQd : RAt W.drew q' st := HQa.out
            have nn : Hid (q' ≠ p') := Lib.hid (by obtain ⟨_, h1, -⟩ := hPd; obtain ⟨_, _, h2, -⟩ := hQd; exact h2.ne_ h1 (by decide))
            have hrt := fun w h => recv_at' p' st k w o.Tick h hstv
            have hqt := fun w h => rrecv_any q' st k w o.Tick h hstv
            generalize recvT st o.Tick = R at *
            have Hrt := Lib.hid hrt; clear hrt
            have Hqt := Lib.hid hqt; clear hqt
            go_wp2_with fail
            go_region_held3 (fun w' => w'.cell? ⟨gx, j, none⟩ = some (ptr p') ∧ w'.cell? ⟨gy, j, none⟩ = some (ptr q') ∧ w'.cell? ⟨ob, 2, none⟩ = some (.int .i64 o.Tick) ∧ w'.cell? ⟨ob, 3, none⟩ = some (.string o.S))
              (first
                | exact ⟨x2, y2, o2, o3⟩
                | exact kk)
              ((go_at_call 10; (with_reducible refine (Hrt.out _ hPd).mono ?_); rintro e w3 ⟨rfl, hp3, hf3⟩; have hq3 := hQd.fr hf3 (by simp; exact nn.out) (fun i hi cs hc => (by simp at hi; subst hi; obtain ⟨_, h1, -⟩ := hPd; have := (hc.eq h1).1; simp at this)) (fun i hi cs hc => (by simp at hi; subst hi; obtain ⟨_, h1, -⟩ := hPd; have := (hc.eq h1).1; simp at this)); have kk := keep4 hf3 x2 y2 o2 o3 (by simp; exact Hbx.out.2.2.1) (by simp; exact Hbx.out.2.2.2.2.1) (by simp; exact Hbx.out.2.2.2.2.2.2.1)))
            all_goals
              obtain ⟨x4, y4, o4, o5⟩ := kk
              have hq3d : RAt w3.drew q' st := hq3
              go_wp2_with fail
              go_region_held3 (fun w' => w'.cell? ⟨gy, j, none⟩ = some (ptr q') ∧ w'.cell? ⟨ob, 2, none⟩ = some (.int .i64 o.Tick))
                (first
                  | exact ⟨y4, o4⟩
                  | exact ll)
                ((go_at_call 18; (with_reducible refine (Hqt.out _ hq3d).mono ?_); rintro e w4 ⟨rfl, hq4, hf4⟩; have ll := (⟨hf4.cell_some (p := ⟨gy, j, none⟩) y4 (by simp; exact Hbx.out.2.2.2.2.2.1), hf4.cell_some (p := ⟨ob, 2, none⟩) o4 (by simp; exact Hbx.out.2.2.2.2.2.2.2)⟩ : w4.cell? ⟨gy, j, none⟩ = some (ptr q') ∧ w4.cell? ⟨ob, 2, none⟩ = some (.int .i64 o.Tick)); have hII := DInv.pq HIa.out Hpj.out Hqj.out Hsj.out ((hstv.recv o.Tick).mono (Nat.le_succ k)) hf3 hp3 (((Fr.refl _ w3).drew).trans hf4) hq4))
              all_goals
                go_wp2_with fail
                go_meet
                exact DCut.mk hII.1 hII.2
          · have t1 : (o.Kind == 1) = false := by rw [beq_eq_false_iff_ne]; exact k1
            clear k1
            by_cases k2 : o.Kind = 2
            · have t2 : (o.Kind == 2) = true := by simp [k2]
              clear k2
              have hPd : PortAt W p' st := HPa.out
              have hQd : RAt W q' st := HQa.out
              have nn : Hid (q' ≠ p') := Lib.hid (by obtain ⟨_, h1, -⟩ := hPd; obtain ⟨_, _, h2, -⟩ := hQd; exact h2.ne_ h1 (by decide))
              go_wp2_with (first
                | (go_at_call 13; go_must ((with_reducible refine (clear_at p' st _ hPd).mono ?_); rintro e w3 ⟨rfl, hp3, hf3⟩; have hq3 := hQd.fr hf3 (by simp; exact nn.out) (fun i hi cs hc => (by simp at hi; subst hi; obtain ⟨_, h1, -⟩ := hPd; have := (hc.eq h1).1; simp at this)) (fun i hi cs hc => (by simp at hi; subst hi; obtain ⟨_, h1, -⟩ := hPd; have := (hc.eq h1).1; simp at this)); have y4 := hf3.cell_some (p := ⟨gy, j, none⟩) y2 (by simp; exact Hbx.out.2.2.2.2.1)))
                | (go_at_call 19; go_must ((with_reducible refine (rclear_any q' st _ hq3).mono ?_); rintro e w4 ⟨rfl, hq4, hf4⟩; have hII := DInv.pq' HIa.out Hpj.out Hqj.out Hsj.out (hstv.clear.mono (Nat.le_succ k)) hf3 hp3 hf4 hq4))
                | fail)
              go_meet
              exact DCut.mk hII.1 hII.2
            · have t2 : (o.Kind == 2) = false := by rw [beq_eq_false_iff_ne]; exact k2
              clear k2
              by_cases k3 : o.Kind = 3
              · have t3 : (o.Kind == 3) = true := by simp [k3]
                clear k3
                have hPd : PortAt W p' st := HPa.out
                have hst8 : st.l.length ≤ 8 := by have := hstv.len; have := hstv.d; omega
                have hWs := HIa.out.fr.size
                go_wp2_with (first
                  | (go_at_call 20; go_must ((with_reducible refine (clone_any p' st _ hPd hst8).mono ?_); rintro e w3 ⟨p2, rfl, hpe, hp3, hf3⟩; have hX0 := (own_fr HIa.out.ox hf3 (by simp)).alloc (.cells #[ptr p2] 25); rw [← Hml.out] at hX0; have hs3 := hf3.size))
                  | (at_builtin
                     refine wpList_append_own _ rfl (.tmp 157) (.tmp 159) 43 rfl w.heap.size 25 i5 (.pointer none) 1 8 Try.underlying43 hi5 ha0 ha1 ha2 rfl (by decide) _ _ _ rfl hX0 ⟨w3.heap.size, 0, none⟩ 1 1 [ptr p2] rfl rfl (news1 (by simp [go_sem])) (by simp [Value.oneCell']) (by simp only [maxLen]; omega) (by omega) (by simp; omega) ?_
                     go_must (intro x' w4 hox4 hgx4 _; have hM := HIa.out.cloneX Hpj.out Hqj.out Hsj.out hpe hp3 hf3 hX0 hgx4; obtain ⟨kx, px, rfl⟩ := own_succ hox4; have y4 := hM.cellY Hqj.out))
                  | (go_at_call 21; go_must ((with_reducible refine (rcopy_any q' st _ (HQ.at_ hM.hq Hqj.out Hsj.out)).mono ?_); rintro e w5 ⟨q2, rfl, hqe, hq5, hf5⟩; have hY0 := (own_fr hM.oy hf5 (by simp)).alloc (.cells #[ptr q2] 40); have hs4 := hM.fr.size; have hs5 := hf5.size; have hlq := HI.out.lq; have hlp := HI.out.lp; have hmq : qs.length = m := (by have := Hml.out; omega); rw [hmq] at hY0; clear hlq hlp hmq))
                  | (at_builtin
                     refine wpList_append_own _ rfl (.tmp 161) (.tmp 167) 44 rfl w.heap.size 40 i4 (.pointer none) 1 8 Try.underlying44 hi4 hb0 hb1 hb2 rfl (by decide) _ _ _ rfl hY0 ⟨w5.heap.size, 0, none⟩ 1 1 [ptr q2] rfl rfl (news1 (by simp [go_sem])) (by simp [Value.oneCell']) (by simp only [maxLen]; omega) (by omega) (by simp; omega) ?_
                     go_must (intro y' w6 hoy6 hgy6 _; obtain ⟨ky, py, rfl⟩ := own_succ hoy6))
                  | fail)
                go_meet
                have hlq := HI.out.lq
                have hlp := HI.out.lp
                have hmm := Hml.out
                have hjl : j < ps.length := by omega
                exact DCut.mk (hM.cloneY HIa.out (hstv.mono (Nat.le_succ k)) rfl hox4 (by omega) hqe hq5 hf5 hY0 hgy6 rfl (by rw [show qs.length + 1 = m + 1 from by omega]; exact hoy6)) ⟨by rw [List.getElem?_append_left hjl]; exact Hpj.out, by rw [List.getElem?_append_left (by omega)]; exact Hqj.out, by rw [List.getElem?_append_left (by omega)]; exact Hsj.out⟩
              · have t3 : (o.Kind == 3) = false := by rw [beq_eq_false_iff_ne]; exact k3
                clear k3
                go_wp2_with fail
                go_meet
                exact DCut.mk (HIa.out.mono (Nat.le_succ k)) ⟨Hpj.out, Hqj.out, Hsj.out⟩
      case rest =>
        clear hx2 hy2 c0 c1' c2' c3 hbl HPa HQa Hob HIa hgxl hgyl
        obtain ⟨ps', qs', sts', p, q, st', m', d1, d2, B1, B2, rfl, rfl, hI', hpj', hqj', hsj'⟩ := hcut
        have HI' := Lib.hid hI'
        obtain ⟨gx', capx', hx1, hx2, -⟩ := hI'.cellX hpj'
        obtain ⟨gy', capy', hy1, hy2, -⟩ := hI'.cellY hqj'
        have hmx : (j : Int) < (m' : Int) := by
          injection hx1 with _ e1 _
          have := (List.getElem?_eq_some_iff.1 hpj').1
          omega
        injection hx1 with hx1 e1 e2
        clear e1 e2
        injection hy1 with hy1 e1 e2
        clear e1 e2
        subst hx1; subst hy1
        have hPj := HP.at_ hI'.hp hpj' hsj'
        obtain ⟨lv, tv, hbq, hlv, -⟩ := HQ.at_ hI'.hq hqj' hsj'
        obtain ⟨Al, cl, rfl, -⟩ := hlv.shape
        have q5 := hbq.cell 5
        simp at q5
        clear hbq hlv hI' hpj' hqj' hsj'
        go_wp2_with fail
        go_quiet ((go_at_call 11; exact Calls.quiet_of_same (same_of (len_any p st' _ hPj))))
        go_wp2
        go_roundg (n - (k + 1))
        case measure => have := Hk.out; omega
        case rel => exact ⟨k + 1, m', d1, d2, _, _, by have := Hk.out; omega, by go_num, rfl, rfl, ps', qs', sts', DI.drewN HI'.out _⟩
    · have hkn : k ≤ 4611686018427387904 := by omega
      have hmN3 : m ≤ 4398046511105 := by omega
      clear hk hmN hI Hok Hcfg Hrcfg Hck HOn Hs
      go_wp2_with fail
      go_loopg [21] m (fun g i wy => ∃ (x : Nat) (ps qs : List Nat) (sts : List PS), x + g = m ∧ i = .int .i64 x ∧ m = ps.length ∧ DI w ps qs sts k (.slice A1 m c1) (.slice A2 m c2) wy)
      case atStart => exact ⟨0, ps, qs, sts, by omega, rfl, hml, HI.out⟩
      case round =>
        clear hml HI ps qs sts
        obtain ⟨x, ps, qs, sts, hx, rfl, hml, hI⟩ := hrel
        have HI := Lib.hid hI
        have Hx := Lib.hid hx
        have Hml := Lib.hid hml
        by_cases hxm : x < m
        · obtain ⟨p, hpj⟩ : ∃ y, ps[x]? = some y := ⟨_, List.getElem?_eq_getElem (by omega)⟩
          obtain ⟨q, hqj⟩ : ∃ y, qs[x]? = some y := ⟨_, List.getElem?_eq_getElem (by have := hI.lp; have := hI.lq; omega)⟩
          obtain ⟨st, hsj⟩ : ∃ y, sts[x]? = some y := ⟨_, List.getElem?_eq_getElem (by have := hI.lp; omega)⟩
          have hstv := hI.pv st (List.mem_of_getElem? hsj)
          obtain ⟨gx, capx, hx1, hx2, cx, hx3⟩ := hI.cellX hpj
          obtain ⟨gy, capy, hy1, hy2, cy, hy3⟩ := hI.cellY hqj
          injection hx1 with hx1 e1 e2
          clear e1 e2
          injection hy1 with hy1 e1 e2
          clear e1 e2
          subst hx1; subst hy1
          have hP := HP.at_ hI.hp hpj hsj
          have hQ := HQ.at_ hI.hq hqj hsj
          have hrt := fun w h => recv_at' p st k w 0 h hstv
          have hqt := fun w h => rrecv_any q st k w 0 h hstv
          generalize recvT st 0 = R at *
          have Hrt := Lib.hid hrt; clear hrt
          have Hqt := Lib.hid hqt; clear hqt
          have hne : gy ∉ [p] := by obtain ⟨_, h1, -⟩ := hP; simp; exact hy3.ne_ h1 (by decide)
          have Hne := Lib.hid hne
          have nn : Hid (q ≠ p) := Lib.hid (by obtain ⟨_, h1, -⟩ := hP; obtain ⟨_, _, h2, -⟩ := hQ; exact h2.ne_ h1 (by decide))
          have Hpj := Lib.hid hpj
          have Hqj := Lib.hid hqj
          have Hsj := Lib.hid hsj
          have hm1 : (x : Int) < (m : Int) := by omega
          clear hx3 hy3 hne hpj hqj hsj hI hx hml
          go_wp2_with (first
            | (go_at_call 10; go_must ((with_reducible refine (Hrt.out _ hP).mono ?_); rintro e w3 ⟨rfl, hp3, hf3⟩; have hq3 := hQ.fr hf3 (by simp; exact nn.out) (fun i hi cs hc => (by simp at hi; subst hi; obtain ⟨_, h1, -⟩ := hP; have := (hc.eq h1).1; simp at this)) (fun i hi cs hc => (by simp at hi; subst hi; obtain ⟨_, h1, -⟩ := hP; have := (hc.eq h1).1; simp at this)); have y4 := hf3.cell_some (p := ⟨gy, x, none⟩) hy2 Hne.out))
            | (go_at_call 18; go_must ((with_reducible refine (Hqt.out _ hq3).mono ?_); rintro e w4 ⟨rfl, hq4, hf4⟩; have hII := HI.out.pq Hpj.out Hqj.out Hsj.out (Nat.le_refl k) (hstv.recv 0) hf3 hp3 hf4 hq4))
            | fail)
          go_roundg (m - (x + 1))
          case measure => have := Hx.out; omega
          case rel => exact ⟨x + 1, ps, qs, _, by have := Hx.out; omega, by go_num, Hml.out, hII⟩
        · clear hx hml hI
          go_wp2_with (go_at_call 9; go_must ((with_reducible refine (fixed_any _).mono ?_); rintro e w5 ⟨rfl, hf5⟩))
          go_ret
          exact ⟨rfl, HI.out.fr.trans hf5⟩

theorem does_walk (K F T S D : Int) (A : Option Addr) (n cap : Nat) (ops : Nat → OpD) (w : World) (hs : OpsIn w (.slice A n cap) n ops) (hn : n ≤ 4398046511104) (hOn : ∀ i, i < n → -9223372036854775808 ≤ (ops i).On ∧ (ops i).On ≤ 9223372036854775807) :
    Calls Try.prog 6 #[cfg K F T S D, .slice A n cap] w fun e w' => e = .returned (.bool true) ∧ Below w.heap.size w w' := by
  cases hok : okC K F T S D with
  | false => exact (does_no K F T S D _ w hok).mono fun e w' ⟨he, hf⟩ => ⟨he, hf.below (Nat.le_refl _) (by simp)⟩
  | true => exact (does_ok K F T S D A n cap ops w hok hs hn hOn).mono fun e w' ⟨he, hf⟩ => ⟨he, hf.below (Nat.le_refl _) (by simp)⟩
end Go.Proofs.Ytblidpafeiiniaa

/- Next: the program's. (Printed by gen7.py.) -/
import Derived.Test.YtnpdljmgjpngaaaW6
import Derived.ScopeJumps
namespace Go.Proofs.Ytnpdljmgjpngaaa
open Go.RowKit Go.Shelf
attribute [local go_sem] Oper.semAt_some
set_option linter.unusedVariables false
set_option linter.unusedSimpArgs false

/-- Is this span a place to go on at: of the kind and index, and not ahead of t? -/
def hits (K I base t : Int) (s : Sp) : Bool := isOf K I s && decide (t ≤ base + s.fr)
/-- None of these is. -/
def NoHits (K I base t : Int) (pre : List Sp) : Prop := ∀ s, s ∈ pre → hits K I base t s = false
theorem all_snoc {K I base t : Int} {pre : List Sp} {x : Sp} (h : NoHits K I base t pre) (hx : hits K I base t x = false) : NoHits K I base t (pre ++ [x]) := by
  intro s hs
  rcases List.mem_append.1 hs with hs | hs
  · exact h s hs
  · simp at hs
    subst hs
    exact hx
/-- The cells that a pass reads and writes. -/
structure NxW (w : World) (K I t base : Int) (pK pI pF r8 r9 pB : Nat) (dl : List Nat) (W : World) : Prop where
  fr : Fr [] w W
  k : Blk W pK 3 #[.int .i64 K]
  i : Blk W pI 3 #[.int .i64 I]
  f : Blk W pF 3 #[.int .i64 t]
  b8 : Blk W r8 3 #[.int .i64 0]
  b9 : Blk W r9 25 #[.int .i64 0]
  b : Blk W pB 3 #[.int .i64 base]
  d : ∀ D, D ∈ dl → w.heap.size ≤ D ∧ W.heap[D]? = some (.deferred (some []))
/-- Where they lie. -/
def NxA (w : World) (pK pI pF r8 r9 pB : Nat) : Prop := w.heap.size ≤ r8 ∧ w.heap.size ≤ r9 ∧ w.heap.size ≤ pB ∧ pB ≠ pK ∧ pB ≠ pI ∧ pB ≠ pF ∧ pB ≠ r8 ∧ pB ≠ r9 ∧ r8 ≠ r9
theorem NxW.own {β : Type} {w : World} {K I t base : Int} {pK pI pF r8 r9 pB : Nat} {dl : List Nat} {B : Nat} (hB : w.heap.size ≤ B) (hd : ∀ D, D ∈ dl → D < B) : OwnFrom B (fun (_ : β) W => NxW w K I t base pK pI pF r8 r9 pB dl W) := by
  intro s W W' row h hg hr
  have key := fun g ty cs (hb : Blk W g ty cs) => ownFrom_blk (β := Unit) B g ty (fun _ => cs) () W W' row hb hg hr
  refine ⟨ownFrom_fr (β := Unit) hB () W W' row h.fr hg hr, key _ _ _ h.k, key _ _ _ h.i, key _ _ _ h.f, key _ _ _ h.b8, key _ _ _ h.b9, key _ _ _ h.b, fun D hD => ⟨(h.d D hD).1, ?_⟩⟩
  have h2 := (h.d D hD).2
  exact (hg.block D (Array.getElem?_eq_some_iff.1 h2).1 (fun e => by have := (hr D e.symm).1; have := hd D hD; omega)).trans h2
theorem NxW.alloc {w : World} {K I t base : Int} {pK pI pF r8 r9 pB : Nat} {dl : List Nat} {W : World} (h : NxW w K I t base pK pI pF r8 r9 pB dl W) (o : Obj) : NxW w K I t base pK pI pF r8 r9 pB dl (W.alloc o) :=
  ⟨h.fr.alloc o, h.k.alloc o, h.i.alloc o, h.f.alloc o, h.b8.alloc o, h.b9.alloc o, h.b.alloc o, fun D hD => ⟨(h.d D hD).1, (Below.heap_alloc W o D (Array.getElem?_eq_some_iff.1 (h.d D hD).2).1).trans (h.d D hD).2⟩⟩
theorem NxW.put {w : World} {K I t base : Int} {pK pI pF r8 r9 pB : Nat} {dl : List Nat} {W : World} (h : NxW w K I t base pK pI pF r8 r9 pB dl W) {D : Nat} (h1 : w.heap.size ≤ D) (h2 : W.heap[D]? = some (.deferred (some []))) : NxW w K I t base pK pI pF r8 r9 pB (D :: dl) W :=
  ⟨h.fr, h.k, h.i, h.f, h.b8, h.b9, h.b, fun D' hD => by rcases List.mem_cons.1 hD with rfl | hD; exact ⟨h1, h2⟩; exact h.d D' hD⟩
theorem NxW.fr' {w : World} {K I t base : Int} {pK pI pF r8 r9 pB : Nat} {dl : List Nat} {W W' : World} (h : NxW w K I t base pK pI pF r8 r9 pB dl W) (hf : Fr [] W W') : NxW w K I t base pK pI pF r8 r9 pB dl W' :=
  ⟨h.fr.trans hf, h.k.fr hf (by simp), h.i.fr hf (by simp), h.f.fr hf (by simp), h.b8.fr hf (by simp), h.b9.fr hf (by simp), h.b.fr hf (by simp), fun D hD => ⟨(h.d D hD).1, (hf.block D (Array.getElem?_eq_some_iff.1 (h.d D hD).2).1 (by simp)).trans (h.d D hD).2⟩⟩
theorem NxW.setB {w : World} {K I t base : Int} {pK pI pF r8 r9 pB : Nat} {dl : List Nat} {W : World} (h : NxW w K I t base pK pI pF r8 r9 pB dl W) (ha : NxA w pK pI pF r8 r9 pB) (v : Int) : NxW w K I t v pK pI pF r8 r9 pB dl (W.setCell ⟨pB, 0, none⟩ (.int .i64 v)) := by
  obtain ⟨a1, a2, a3, a4, a5, a6, a7, a8, a9⟩ := ha
  refine ⟨h.fr.setCell (.inr a3) _, h.k.far (Ne.symm a4) _, h.i.far (Ne.symm a5) _, h.f.far (Ne.symm a6) _, h.b8.far (Ne.symm a7) _, h.b9.far (Ne.symm a8) _, h.b.set_ 0 _, fun D hD => ⟨(h.d D hD).1, ?_⟩⟩
  have h2 := (h.d D hD).2
  refine (Below.heap_setCell W ⟨pB, 0, none⟩ _ D ?_).trans h2
  rintro rfl
  have hb := h.b
  unfold Blk at hb
  rw [h2] at hb
  cases hb
/-- How a pass, and the function, ends. -/
structure NxEnd (w : World) (r8 r9 : Nat) (x er : Int) (a : Act) (W : World) : Prop where
  sz : a.tmps.size = 61
  t8 : a.tmps[8]? = some (.pointer (some ⟨r8, 0, none⟩))
  t9 : a.tmps[9]? = some (.pointer (some ⟨r9, 0, none⟩))
  b8 : Blk W r8 3 #[.int .i64 x]
  b9 : Blk W r9 25 #[.int .i64 er]
  fr : Fr [] w W
  d : ∃ dl : List Nat, dl.Nodup ∧ a.defers = dl.map (fun D => { target := .collected D, args := #[] }) ∧ ∀ D, D ∈ dl → w.heap.size ≤ D ∧ W.heap[D]? = some (.deferred (some []))
theorem NxW.store {w : World} {K I t base : Int} {pK pI pF r8 r9 pB : Nat} {dl : List Nat} {W : World} (x er : Int) (h : NxW w K I t base pK pI pF r8 r9 pB dl W) (ha : NxA w pK pI pF r8 r9 pB) :
    Blk ((W.setCell ⟨r8, 0, none⟩ (.int .i64 x)).setCell ⟨r9, 0, none⟩ (.int .i64 er)) r8 3 #[.int .i64 x] ∧ Blk ((W.setCell ⟨r8, 0, none⟩ (.int .i64 x)).setCell ⟨r9, 0, none⟩ (.int .i64 er)) r9 25 #[.int .i64 er] ∧ Fr [] w ((W.setCell ⟨r8, 0, none⟩ (.int .i64 x)).setCell ⟨r9, 0, none⟩ (.int .i64 er)) ∧
      ∀ D, D ∈ dl → w.heap.size ≤ D ∧ ((W.setCell ⟨r8, 0, none⟩ (.int .i64 x)).setCell ⟨r9, 0, none⟩ (.int .i64 er)).heap[D]? = some (.deferred (some [])) := by
  obtain ⟨a1, a2, a3, a4, a5, a6, a7, a8, a9⟩ := ha
  refine ⟨(h.b8.set_ 0 _).far (p := ⟨r9, 0, none⟩) a9 _, (h.b9.far (p := ⟨r8, 0, none⟩) (Ne.symm a9) _).set_ 0 _, (h.fr.setCell (p := ⟨r8, 0, none⟩) (.inr a1) _).setCell (p := ⟨r9, 0, none⟩) (.inr a2) _, fun D hD => ⟨(h.d D hD).1, ?_⟩⟩
  have hd2 := (h.d D hD).2
  refine (Below.heap_setCell _ ⟨r9, 0, none⟩ _ D ?_).trans ((Below.heap_setCell W ⟨r8, 0, none⟩ _ D ?_).trans hd2)
  · rintro rfl
    have hb := h.b9
    unfold Blk at hb
    rw [hd2] at hb
    cases hb
  · rintro rfl
    have hb := h.b8
    unfold Blk at hb
    rw [hd2] at hb
    cases hb
/-- The loop has been left at span x. -/
def NxIx (w : World) (l : List Win) (hok : okL l = true) (K I t base : Int) (r8 r9 : Nat) (dl : List Nat) (c : Code) (pre : List Sp) (W : World) : Prop :=
  ∃ pre' x, (c = .ret ∧ pre = pre' ++ [x] ∧ hits K I base t x = true ∧ NoHits K I base t pre') ∧ Blk W r8 3 #[.int .i64 (base + x.fr)] ∧ Blk W r9 25 #[.int .i64 0] ∧ Fr [] w W ∧ ∀ D, D ∈ dl → w.heap.size ≤ D ∧ W.heap[D]? = some (.deferred (some []))
theorem nxIx_own {w : World} {l : List Win} {hok : okL l = true} {K I t base : Int} {r8 r9 B : Nat} {dl : List Nat} {c : Code} (hB : w.heap.size ≤ B) (hd : ∀ D, D ∈ dl → D < B) : OwnFrom B (NxIx w l hok K I t base r8 r9 dl c) := by
  rintro pre W W' row ⟨pre', x, h1, h2, h3, h4, h5⟩ hg hr
  have key := fun g ty cs (hb : Blk W g ty cs) => ownFrom_blk (β := Unit) B g ty (fun _ => cs) () W W' row hb hg hr
  exact ⟨pre', x, h1, key _ _ _ h2, key _ _ _ h3, ownFrom_fr (β := Unit) hB () W W' row h4 hg hr, fun D hD => ⟨(h5 D hD).1, (hg.block D (Array.getElem?_eq_some_iff.1 (h5 D hD).2).1 (fun e => by have := (hr D e.symm).1; have := hd D hD; omega)).trans (h5 D hD).2⟩⟩
/-- What holds at the jump. -/
def NxJ (w : World) (A : Option Addr) (n cap : Nat) (K I t : Int) (pK pI pF r8 r9 pB : Nat) (turn base : Int) (a : Act) (W : World) : Prop :=
  ∃ (dl : List Nat) (u13 u14 u15 u16 u17 u18 u19 u20 u21 u22 u23 u24 u25 u26 u27 u28 u29 u30 u31 u32 u33 u34 u35 u36 u37 u38 u39 u40 u41 u42 u43 u44 u45 u46 u47 u48 u49 u50 u51 u52 u53 u54 u55 u56 u57 u58 u59 u60 : Value), a = { tmps := #[.slice A n cap, .int .i64 K, .int .i64 I, .int .i64 t, undef, .pointer (some ⟨pK, 0, none⟩), .pointer (some ⟨pI, 0, none⟩), .pointer (some ⟨pF, 0, none⟩), .pointer (some ⟨r8, 0, none⟩), .pointer (some ⟨r9, 0, none⟩), .int .i64 0, .pointer (some ⟨pB, 0, none⟩), .int .i64 turn, u13, u14, u15, u16, u17, u18, u19, u20, u21, u22, u23, u24, u25, u26, u27, u28, u29, u30, u31, u32, u33, u34, u35, u36, u37, u38, u39, u40, u41, u42, u43, u44, u45, u46, u47, u48, u49, u50, u51, u52, u53, u54, u55, u56, u57, u58, u59, u60], defers := dl.map fun D => { target := .collected D, args := #[] } } ∧ NxW w K I t base pK pI pF r8 r9 pB dl W ∧ dl.Nodup

set_option maxRecDepth 100000 in
set_option maxHeartbeats 4000000 in
theorem next_pass {c0 c rest : Code} (hc : Try.f16.body = some (.seq c0 (.scope c))) (hr : findLabel c 0 = some (.seq .skip rest)) (Q : Exit → Act → World → Prop) (A : Option Addr) (n cap : Nat) (l : List Win) (w W : World) (K I t base turn : Int)
    (pK pI pF r8 r9 pB : Nat) (h : WinsIn w (.slice A n cap) l) (hok : okL l = true) (h1 : 0 ≤ t) (h2 : t ≤ 1099511627776) (hb0 : 0 ≤ base) (hb1 : base ≤ 1099511700000) (ha : NxA w pK pI pF r8 r9 pB) (a : Act) (hJ : NxJ w A n cap K I t pK pI pF r8 r9 pB turn base a W)
    (ht : turn = 0 ∨ turn = 1)
    (hret : ∀ a W' pre x, pre ++ [x] <+: spL l hok → hits K I base t x = true → NoHits K I base t pre → NxEnd w r8 r9 (base + x.fr) 0 a W' → Q .ret a W')
    (hnone : ∀ a W', turn = 1 → NoHits K I base t (spL l hok) → NxEnd w r8 r9 0 130 a W' → Q .ret a W')
    (hgoto : ∀ a W', turn = 0 → NoHits K I base t (spL l hok) → NxJ w A n cap K I t pK pI pF r8 r9 pB 1 (base + tot l l.length) a W' → Q (.goto 0) a W') :
    rest.wp Try.prog Q a W := by
  have hc1 := Code.scope.inj (Code.seq.inj (Option.some.inj (show some (Code.seq _ (Code.scope _)) = some (Code.seq c0 (Code.scope c)) from hc))).2
  clear hc
  subst hc1
  have hr1 := (Code.seq.inj (Option.some.inj ((show findLabel _ 0 = some (.seq .skip _) from rfl).symm.trans hr))).2
  clear hr
  subst hr1
  obtain ⟨dl, u13, u14, u15, u16, u17, u18, u19, u20, u21, u22, u23, u24, u25, u26, u27, u28, u29, u30, u31, u32, u33, u34, u35, u36, u37, u38, u39, u40, u41, u42, u43, u44, u45, u46, u47, u48, u49, u50, u51, u52, u53, u54, u55, u56, u57, u58, u59, u60, rfl, hw, hnd⟩ := hJ
  have hl := okL_len hok
  have hA := h.addr hl.1
  have H := Lib.hid h
  have Hlen := Lib.hid h.len
  have Hret := Lib.hid hret
  have Hnone := Lib.hid hnone
  have Hgoto := Lib.hid hgoto
  clear h hret hnone hgoto
  go_wp2_with (first
    | (go_at_call 39; go_must ((with_reducible refine (spans_any _ _ _ _).mono ?_); rintro e w3 ⟨rfl, rfl⟩))
    | fail)
  have hw1 := hw.alloc (.cells #[.slice A n cap] 22)
  have bS := (Blk.new W 22 #[.slice A n cap]).cell 0
  have hsz : (W.alloc (.cells #[.slice A n cap] 22)).heap.size = W.heap.size + 1 := by simp
  have hdl : ∀ D, D ∈ dl → D < W.heap.size := fun D hD => (Array.getElem?_eq_some_iff.1 (hw.d D hD).2).1
  have hws := hw.fr.size
  have l8 := hw.b8.lt
  have l9 := hw.b9.lt
  obtain ⟨W0, hW0⟩ : ∃ W0, W.alloc (.cells #[.slice A n cap] 22) = W0 := ⟨_, rfl⟩
  rw [hW0] at bS hw1 hsz ⊢
  clear hW0 hw
  obtain ⟨a1, a2, a3, a4, a5, a6, a7, a8, a9⟩ := ha
  have ha : NxA w pK pI pF r8 r9 pB := ⟨a1, a2, a3, a4, a5, a6, a7, a8, a9⟩
  have Ha := Lib.hid ha
  clear ha
  generalize W.heap.size = s1 at *
  refine (wpIn_wide (n := 3)).1 ?_
  refine wpIn_rangeFunc_ownH rfl (by omega) (gf := 47) (lb := #[.pointer (some ⟨s1, 0, none⟩)]) rfl trivial (enters_of Try.func47 (by kernel_rfl) rfl)
    (spans_stops Fence.wide (3 - 1) trivial rfl (by omega) s1 w.heap.size (s1 + 1) n cap A l hok Hlen.out W0 (by omega) (by omega) (by omega) bS (H.out.fr hw1.fr) hA) kpS_t (kpS_b (by omega)) (Below.refl _ _) (fun _ => rfl)
    (fun pre W => (NoHits K I base t pre ∧ NxW w K I t base pK pI pF r8 r9 pB dl W) ∧ s1 + 1 ≤ W.heap.size)
    (NxIx w l hok K I t base r8 r9 dl)
    (OwnFrom.and (OwnFrom.and (ownFrom_pure _ _) (NxW.own (by omega) (fun D hD => by have := hdl D hD; omega))) (ownFrom_size _ _))
    (fun c => nxIx_own (by omega) (fun D hD => by have := hdl D hD; omega))
    ⟨⟨(fun s hs => by cases hs), hw1⟩, by omega⟩
    (fun x a' W => ∃ Bx, s1 + 1 ≤ Bx ∧ Blk W Bx 73 #[.int .i64 x.num, .int .i64 x.fr, .int .i64 x.to, .int .i64 x.K, .int .i64 x.I, .int .i64 x.T] ∧ a' = { tmps := #[.slice A n cap, .int .i64 K, .int .i64 I, .int .i64 t, undef, .pointer (some ⟨pK, 0, none⟩), .pointer (some ⟨pI, 0, none⟩), .pointer (some ⟨pF, 0, none⟩), .pointer (some ⟨r8, 0, none⟩), .pointer (some ⟨r9, 0, none⟩), .int .i64 0, .pointer (some ⟨pB, 0, none⟩), .int .i64 turn, .pointer (some ⟨Bx, 0, none⟩), u14, u15, u16, u17, u18, u19, u20, u21, u22, u23, u24, u25, u26, u27, .slice A n cap, .func (.func 47) #[] #[.pointer (some ⟨s1, 0, none⟩)], .agg #[.int .i64 x.num, .int .i64 x.fr, .int .i64 x.to, .int .i64 x.K, .int .i64 x.I, .int .i64 x.T], u31, u32, u33, u34, u35, u36, u37, u38, u39, u40, u41, u42, u43, u44, u45, u46, u47, u48, u49, u50, u51, u52, u53, u54, u55, u56, u57, u58, u59, u60], defers := [] })
    (fun x a' _ X Y row hs hg hr => by obtain ⟨Bx, e1, e2, e3⟩ := hs; exact ⟨Bx, e1, ownFrom_blk (β := Unit) _ Bx 73 (fun _ => _) () X Y row e2 hg hr, e3⟩)
    ?assign ?body ?done ?stop
  case assign =>
    rintro l' pre x W K' ⟨⟨hp, hw2⟩, hs1⟩ hK
    unfold Sp.enc
    gi_wp2
    exact hK _ _ ((KeepsOthers.alloc _ _).from _) ((KpS.refl _ _ W).alloc (by omega) _) ⟨⟨hp, hw2.alloc _⟩, by simp; omega⟩ ⟨W.heap.size, by omega, Blk.new W 73 _, rfl⟩
  case body =>
    rintro l' pre x a' W hl' ⟨r, hr⟩ ⟨⟨hp, hw2⟩, hs1⟩ ⟨Bx, hBx, bX, rfl⟩ hlt
    have eK := hw2.k.cell 0
    have eI := hw2.i.cell 0
    have et := hw2.f.cell 0
    have eB := hw2.b.cell 0
    have f8 := hw2.b8.frozen 0
    have f9 := hw2.b9.frozen 0
    have e8 := hw2.b8.cell 0
    have e9 := hw2.b9.cell 0
    have e1 := bX.cell 1
    have e3 := bX.cell 3
    have e4 := bX.cell 4
    simp at eK eI et eB e8 e9 e1 e3 e4
    obtain ⟨xh0, xh1, xh2, xh3, xh4, xh5, xh6, xh7⟩ := x.h
    by_cases hcK : x.K = K
    · by_cases hcI : x.I = I
      · have hk1 : (x.K == K) = true := by simp [hcK]
        have hk2 : (x.I == I) = true := by simp [hcI]
        clear hcK hcI
        by_cases hct : t ≤ base + x.fr
        · have Hh : Hid (hits K I base t x = true) := Lib.hid (by simp [hits, isOf, hk1, hk2, hct])
          gi_wp2
          obtain ⟨c1, c2, c3, c4⟩ := hw2.store (base + x.fr) 0 Ha.out
          exact ⟨((KeepsOthers.setCell _ _ _).trans (KeepsOthers.setCell _ _ _)).from _, pre, x, ⟨rfl, rfl, Hh.out, hp⟩, c1, c2, c3, c4⟩
        · have Hh : Hid (hits K I base t x = false) := Lib.hid (by simp [hits, isOf, hk1, hk2]; omega)
          gi_wp2
          exact ⟨KeepsFrom.refl _ _, KpS.refl _ _ _, ⟨⟨all_snoc hp Hh.out, hw2⟩, hs1⟩⟩
      · have hk1 : (x.K == K) = true := by simp [hcK]
        have hk2 : (x.I == I) = false := by simp [hcI]
        clear hcK hcI
        have Hh : Hid (hits K I base t x = false) := Lib.hid (by simp [hits, isOf, hk1, hk2])
        gi_wp2
        exact ⟨KeepsFrom.refl _ _, KpS.refl _ _ _, ⟨⟨all_snoc hp Hh.out, hw2⟩, hs1⟩⟩
    · have hk1 : (x.K == K) = false := by simp [hcK]
      clear hcK
      have Hh : Hid (hits K I base t x = false) := Lib.hid (by simp [hits, isOf, hk1])
      gi_wp2
      exact ⟨KeepsFrom.refl _ _, KpS.refl _ _ _, ⟨⟨all_snoc hp Hh.out, hw2⟩, hs1⟩⟩
  case done =>
    rintro D zs W hD rfl ⟨⟨hp, hw2⟩, hs1⟩ hK
    have Hp := Lib.hid hp
    clear hp
    have hL := tot_bd hok l.length (Nat.le_refl _)
    have Hl := Lib.hid fun w h => length_ok A n cap l w h hok
    have hm : Try.prog.follows .mixedOrders = true := by kernel_rfl
    have hDn : D ∉ dl := fun hm => by have := hdl D hm; omega
    have f8 := hw2.b8.frozen 0
    have f9 := hw2.b9.frozen 0
    have e8 := hw2.b8.cell 0
    have e9 := hw2.b9.cell 0
    simp at e8 e9
    rcases ht with rfl | rfl
    · clear f8 f9 e8 e9
      go_wp2
      have hwp := (hw2.put (by omega) hK).fr' (Fr.drew (Fr.refl [] W))
      have hw12 : IntKind.i64.wrap (base + tot l l.length) = base + tot l l.length := IntWalk.i64_in _ (by omega)
      refine (wpIn_wide (n := 3)).1 ?_
      refine wpIn_region_inv hm (by kernel_rfl) (fun L' a w' => a = { tmps := #[.slice A n cap, .int .i64 K, .int .i64 I, .int .i64 t, undef, .pointer (some ⟨pK, 0, none⟩), .pointer (some ⟨pI, 0, none⟩), .pointer (some ⟨pF, 0, none⟩), .pointer (some ⟨r8, 0, none⟩), .pointer (some ⟨r9, 0, none⟩), .int .i64 0, .pointer (some ⟨pB, 0, none⟩), .int .i64 (bif L'.getD 5 false then 1 else 0), u13, u14, u15, u16, u17, u18, u19, u20, u21, u22, u23, u24, u25, u26, u27, .slice A n cap, .func (.func 47) #[] #[.pointer (some ⟨s1, 0, none⟩)], u30, u31, u32, u33, u34, u35, u36, u37, u38, u39, u40, u41, u42, u43, u44, u45, u46, u47, u48, u49, u50, u51, u52, u53, u54, .int .i64 0, .bool true, bif L'.getD 0 false then .int .i64 base else u57, bif L'.getD 1 false then .slice A n cap else u58, bif L'.getD 2 false then .int .i64 (tot l l.length) else u59, bif L'.getD 3 false then .int .i64 (base + tot l l.length) else u60], defers := { target := .collected D, args := #[] } :: dl.map fun D => { target := .collected D, args := #[] } } ∧ NxW w K I t (bif L'.getD 4 false then base + tot l l.length else base) pK pI pF r8 r9 pB (D :: dl) w' ∧ (L'.getD 4 false = true → L'.getD 0 false = true)) ⟨rfl, hwp, fun h => by cases h⟩ ?_ ?_
      · rintro ⟨L'⟩ _ w' i o hs ho hf hp ⟨rfl, hw', hcl⟩
        match L', hs with
        | [b0, b1, b2, b3, b4, b5], _ =>
        replace hw' : NxW w K I t (bif b4 then base + tot l l.length else base) pK pI pF r8 r9 pB (D :: dl) w' := hw'
        replace hcl : b4 = true → b0 = true := hcl
        have eb := hw'.b.cell 0
        have fb := hw'.b.frozen 0
        simp at eb
        match i, ho with
        | 0, ho =>
          injection ho with ho
          subst ho
          simp [Region.binds] at hf hp
          have h4 : b4 = false := by
            cases hb : b4 with
            | false => rfl
            | true => rw [hcl hb] at hf; cases hf
          subst h4
          simp only [cond_false] at eb
          refine wpOpIn_step rfl (fun K' hK' => ?_)
          go_simp
          exact hK' _ _ ⟨by simp [hf, hp], hw', by simp⟩
        | 1, ho =>
          injection ho with ho
          subst ho
          simp [Region.binds] at hf hp
          refine wpOpIn_step rfl (fun K' hK' => ?_)
          go_simp
          exact hK' _ _ ⟨by simp [hf, hp], hw', hcl⟩
        | 2, ho =>
          injection ho with ho
          subst ho
          simp [Region.binds] at hf hp
          refine wpOpIn_step rfl (fun K' hK' => ?_)
          go_simp
          refine ⟨trivial, (callsIn_wide.2 (Hl.out _ (H.out.fr hw'.fr))).mono ?_⟩
          rintro e w2 ⟨rfl, hf2⟩
          exact hK' _ _ ⟨by simp [hf, hp], hw'.fr' hf2, hcl⟩
        | 3, ho =>
          injection ho with ho
          subst ho
          simp [Region.binds] at hf hp
          refine wpOpIn_step rfl (fun K' hK' => ?_)
          go_simp
          exact hK' _ _ ⟨by simp [hf, hp], hw', hcl⟩
        | 4, ho =>
          injection ho with ho
          subst ho
          simp [Region.binds] at hf hp
          refine wpOpIn_step rfl (fun K' hK' => ?_)
          go_simp
          exact hK' _ _ ⟨by simp [hf, hp], hw'.setB Ha.out _, fun _ => by simp [hp]⟩
        | 5, ho =>
          injection ho with ho
          subst ho
          simp [Region.binds] at hf hp
          refine wpOpIn_step rfl (fun K' hK' => ?_)
          go_simp
          exact hK' _ _ ⟨by simp [hf, hp], hw', hcl⟩
        | i + 6, ho => simp at ho
      · rintro _ w' ⟨rfl, hw', -⟩
        go_wp2
        refine wp_goto ?_
        refine Hgoto.out _ _ (by simp) Hp.out ?_
        exact ⟨D :: dl, _, _, _, _, _, _, _, _, _, _, _, _, _, _, _, _, _, _, _, _, _, _, _, _, _, _, _, _, _, _, _, _, _, _, _, _, _, _, _, _, _, _, _, _, _, _, _, _, rfl, hw', List.nodup_cons.2 ⟨hDn, hnd⟩⟩
    · obtain ⟨c1, c2, c3, c4⟩ := (hw2.put (by omega) hK).store 0 130 Ha.out
      have Hc := Lib.hid c4
      clear c4
      go_wp2
      exact Hnone.out _ _ (by simp) Hp.out ⟨rfl, rfl, rfl, c1, c2, c3, D :: dl, List.nodup_cons.2 ⟨hDn, hnd⟩, rfl, Hc.out⟩
  case stop =>
    rintro D c pre W hD hpre ⟨pre', x, ⟨rfl, rfl, hh, hp⟩, b8, b9, hfr, hd⟩ hK
    have hDn : D ∉ dl := fun hm => by have := hdl D hm; omega
    have Hh := Lib.hid hh
    have Hp := Lib.hid hp
    have Hd := Lib.hid hd
    clear hh hp hd
    refine (wpIn_wide (n := 3)).2 ?_
    go_wp2
    refine Hret.out _ _ pre' x hpre Hh.out Hp.out ⟨rfl, rfl, rfl, b8, b9, hfr, D :: dl, List.nodup_cons.2 ⟨hDn, hnd⟩, rfl, fun D' hD' => ?_⟩
    rcases List.mem_cons.1 hD' with rfl | hD'
    · exact ⟨by omega, hK⟩
    · exact Hd.out D' hD'
end Go.Proofs.Ytnpdljmgjpngaaa

/- VmBlind, walked. -/
import Derived.Test.YtonongaakieciaaA1
import Derived.Test.YtonongaakieciaaP3
import Derived.Test.YtonongaakieciaaRd2
namespace Go.Proofs.Ytonongaakieciaa
open Go.RowKit
set_option linter.unusedVariables false
set_option linter.unusedSimpArgs false
set_option maxRecDepth 100000
theorem MW.of {w W0 W : World} {v p F b mm cap : Nat} {A : Option Addr} {t : List Pg} {x : Vm} {st : St} (hv : VmAt W v x) (hm : MemAt W p F st) (ht : Tb w b (.slice A mm cap) t) (hb : b < w.heap.size ∨ b = 0) (hf0 : Fr [] w W0) (hz : 0 < W0.heap.size) (hf : Fr [] W0 W) (gv : W0.heap.size ≤ v) (gF : W0.heap.size ≤ F) (gp : W0.heap.size ≤ p) : MW W0 W v p F b mm cap A t x st := by
  have h0 := hf0.size
  have h1 := hf.size
  exact ⟨hv, hm, (ht.fr hf0 (by simp)).fr hf (by simp), by omega, by omega, by omega, hf, gv, gF, gp⟩
/-- Two machines, each with its memory, and one table. -/
structure Duo (w W : World) (v v2 p p2 F F2 b mm cap : Nat) (A : Option Addr) (t : List Pg) (x y : Vm) (s1 s2 : St) : Prop where
  a : MW w W v p F b mm cap A t x s1
  c : MW w W v2 p2 F2 b mm cap A t y s2
  vv : v ≠ v2
  FF : F ≠ F2
theorem mem_ne {w : World} {p F p2 F2 : Nat} {st st2 : St} (h : MemAt w p F st) (h2 : MemAt w p2 F2 st2) : p2 ≠ F := by
  obtain ⟨-, ⟨c3, h3, -⟩⟩ := h
  obtain ⟨⟨⟨c4, h4, -⟩, -, -⟩, -⟩ := h2
  exact Blk.ne_ h4 h3 (by decide)
section
variable {w W W' : World} {v v2 p p2 F F2 b mm cap : Nat} {A : Option Addr} {t : List Pg} {x y : Vm} {s1 s2 : St}
theorem Duo.to (h : Duo w W v v2 p p2 F F2 b mm cap A t x y s1 s2) (hf : Fr [] W W') : Duo w W' v v2 p p2 F F2 b mm cap A t x y s1 s2 := ⟨h.a.to hf, h.c.to hf, h.vv, h.FF⟩
theorem Duo.swap (h : Duo w W v v2 p p2 F F2 b mm cap A t x y s1 s2) : Duo w W v2 v p2 p F2 F b mm cap A t y x s2 s1 := ⟨h.c, h.a, h.vv.symm, h.FF.symm⟩
/-- The first one turns, and its memory. -/
theorem Duo.turn (h : Duo w W v v2 p p2 F F2 b mm cap A t x y s1 s2) {S : List Nat} (hS : ∀ k, k ∈ S → k = v ∨ k = F) (hf : Fr S W W') {X : Vm} {S1 : St} (hv : VmAt W' v X) (hm : MemAt W' p F S1) : Duo w W' v v2 p p2 F F2 b mm cap A t X y S1 s2 := by
  obtain ⟨m1, m2⟩ := h.c.mem.ne_vm h.a.vm
  obtain ⟨m3, m4⟩ := h.a.mem.ne_vm h.c.vm
  have m5 := mem_ne h.a.mem h.c.mem
  have hfr : Fr [] w W' := h.a.fr.step hf (fun k hk => by rcases hS k hk with rfl | rfl <;> first | exact .inr h.a.gv | exact .inr h.a.gF)
  have hb : b ∉ S := fun hk => by rcases hS b hk with e | e; exact h.a.nv e; exact h.a.nF e
  have hlt := Nat.lt_of_lt_of_le h.a.lt hf.size
  refine ⟨⟨hv, hm, h.a.tb.fr hf hb, hlt, h.a.nv, h.a.nF, hfr, h.a.gv, h.a.gF, h.a.gp⟩, ⟨h.c.vm.fr hf ?_, h.c.mem.to hf ?_ ?_, h.c.tb.fr hf hb, hlt, h.c.nv, h.c.nF, hfr, h.c.gv, h.c.gF, h.c.gp⟩, h.vv, h.FF⟩
  · exact fun hk => by rcases hS _ hk with e | e; exact h.vv e.symm; exact m4 e.symm
  · exact fun hk => by rcases hS _ hk with e | e; exact m1 e; exact m5 e
  · exact fun hk => by rcases hS _ hk with e | e; exact m2 e; exact h.FF e.symm
theorem Duo.one (h : Duo w W v v2 p p2 F F2 b mm cap A t x y s1 s2) {E : Int × Int} {X : Vm} {S : St} (hs : stepV x s1 t = (E, X, S)) : Calls Try.prog 34 #[ptr v, ptr p, .slice A mm cap] W fun e w' => e = .returned (.agg #[.int .i64 E.1, .int .i64 E.2]) ∧ Duo w w' v v2 p p2 F F2 b mm cap A t X y S s2 := by
  refine (Step_any v p F b mm cap x s1 A t W h.a.vm h.a.mem h.a.tb h.a.lt).mono ?_
  rw [hs]
  rintro e w' ⟨he, hv, hm, hf⟩
  exact ⟨he, h.turn (fun k hk => by simpa using hk) hf hv hm⟩
theorem Duo.two (h : Duo w W v v2 p p2 F F2 b mm cap A t x y s1 s2) {E : Int × Int} {X : Vm} {S : St} (hs : stepV y s2 t = (E, X, S)) : Calls Try.prog 34 #[ptr v2, ptr p2, .slice A mm cap] W fun e w' => e = .returned (.agg #[.int .i64 E.1, .int .i64 E.2]) ∧ Duo w w' v v2 p p2 F F2 b mm cap A t x X s1 S :=
  (h.swap.one hs).mono fun e w' ⟨he, hd⟩ => ⟨he, hd.swap⟩
theorem Duo.ans (h : Duo w W v v2 p p2 F F2 b mm cap A t x y s1 s2) (hw : x.wt = true) {g c : Nat} {l0 l1 l2 : Int} (hb : Blk W g 3 #[.int .i64 l0, .int .i64 l1, .int .i64 l2]) : Calls Try.prog 33 #[ptr v, .slice (some ⟨g, 0, none⟩) 3 c] W fun e w' => e = .returned (.int .i64 0) ∧ Duo w w' v v2 p p2 F F2 b mm cap A t (ansV x (fun j => if j = 0 then l0 else if j = 1 then l1 else l2)) y s1 s2 := by
  obtain ⟨n1, n2⟩ := h.a.mem.ne_vm h.a.vm
  refine (vAnswer_yes h.a.vm g 0 c (fun j => if j = 0 then l0 else if j = 1 then l1 else l2) hw (fun j hj => ?_) (Blk.ne_ hb h.a.vm.hb (by decide))).mono ?_
  · rw [Nat.zero_add, hb.cell]
    rcases (by omega : j = 0 ∨ j = 1 ∨ j = 2) with rfl | rfl | rfl <;> rfl
  · rintro e w' ⟨he, hv, hf⟩
    exact ⟨he, h.turn (fun k hk => by simp at hk; exact .inl hk) hf hv (h.a.mem.to hf (by simpa using n1) (by simpa using n2))⟩
theorem Duo.ans2 (h : Duo w W v v2 p p2 F F2 b mm cap A t x y s1 s2) (hw : y.wt = true) {g c : Nat} {l0 l1 l2 : Int} (hb : Blk W g 3 #[.int .i64 l0, .int .i64 l1, .int .i64 l2]) : Calls Try.prog 33 #[ptr v2, .slice (some ⟨g, 0, none⟩) 3 c] W fun e w' => e = .returned (.int .i64 0) ∧ Duo w w' v v2 p p2 F F2 b mm cap A t x (ansV y (fun j => if j = 0 then l0 else if j = 1 then l1 else l2)) s1 s2 :=
  (h.swap.ans hw hb).mono fun e w' ⟨he, hd⟩ => ⟨he, hd.swap⟩
theorem Duo.lay (h : Duo w W v v2 p p2 F F2 b mm cap A t x y s1 s2) (f : Int) (s : ByteArray) (hs : s.size ≤ maxLen) : Calls Try.prog 31 #[ptr p2, .int .i64 f, .int .i64 0, .string s] W fun e w' => e = .returned (.int .i64 (layE s2.n f 0 s)) ∧ Duo w w' v v2 p p2 F F2 b mm cap A t x y s1 (layS s2 f 0 s) := by
  obtain ⟨n1, n2⟩ := h.c.mem.ne_vm h.c.vm
  exact (Lay_law p2 F2 s2 W f s h.c.mem hs).mono fun e w' ⟨he, hm, hf⟩ => ⟨he, (h.swap.turn (fun k hk => by simp at hk; exact .inr hk) hf (h.c.vm.fr hf (by simpa using n2.symm)) hm).swap⟩
end
section
variable {w W W' : World} {v v2 p p2 F F2 b mm cap : Nat} {A : Option Addr} {t : List Pg} {x y : Vm} {s1 s2 : St}
theorem Duo.oneF (h : Duo w W v v2 p p2 F F2 b mm cap A t x y s1 s2) {E : Int × Int} {X : Vm} {S : St} (hs : stepV x s1 t = (E, X, S)) : Calls Try.prog 34 #[ptr v, ptr p, .slice A mm cap] W fun e w' => e = .returned (.agg #[.int .i64 E.1, .int .i64 E.2]) ∧ Duo w w' v v2 p p2 F F2 b mm cap A t X y S s2 ∧ Fr [v, F] W w' := by
  refine (Step_any v p F b mm cap x s1 A t W h.a.vm h.a.mem h.a.tb h.a.lt).mono ?_
  rw [hs]
  rintro e w' ⟨he, hv, hm, hf⟩
  exact ⟨he, h.turn (fun k hk => by simpa using hk) hf hv hm, hf⟩
theorem Duo.ev (h : Duo w W v v2 p p2 F F2 b mm cap A t x y s1 s2) {g : Nat} {cs : Array Value} (hb : Blk W g 65 cs) : g ≠ v ∧ g ≠ F ∧ g ≠ v2 ∧ g ≠ F2 :=
  ⟨(Blk.ne_ h.a.vm.hb hb (by decide)).symm, (h.a.mem.ne_ev hb (by decide) (by decide)).2.symm, (Blk.ne_ h.c.vm.hb hb (by decide)).symm, (h.c.mem.ne_ev hb (by decide) (by decide)).2.symm⟩
theorem Duo.set_ (h : Duo w W v v2 p p2 F F2 b mm cap A t x y s1 s2) {g : Nat} {cs : Array Value} (hb : Blk W g 65 cs) (hg : w.heap.size ≤ g) (htb : b ≠ g) (i : Nat) (u : Value) : Duo w (W.setCell ⟨g, i, none⟩ u) v v2 p p2 F F2 b mm cap A t x y s1 s2 := by
  have hf : Fr [g] W (W.setCell ⟨g, i, none⟩ u) := (Fr.refl [g] W).setCell (p := ⟨g, i, none⟩) (.inl (by simp)) u
  obtain ⟨n1, n2, n3, n4⟩ := h.ev hb
  have n5 := (h.a.mem.ne_ev hb (by decide) (by decide)).1
  have n6 := (h.c.mem.ne_ev hb (by decide) (by decide)).1
  have hfr := h.a.fr.step hf (fun k hk => by simp at hk; subst hk; exact .inr hg)
  have hlt := Nat.lt_of_lt_of_le h.a.lt hf.size
  exact ⟨⟨h.a.vm.fr hf (by simpa using n1.symm), h.a.mem.to hf (by simpa using n5) (by simpa using n2.symm), h.a.tb.fr hf (by simpa using htb), hlt, h.a.nv, h.a.nF, hfr, h.a.gv, h.a.gF, h.a.gp⟩,
    ⟨h.c.vm.fr hf (by simpa using n3.symm), h.c.mem.to hf (by simpa using n6) (by simpa using n4.symm), h.c.tb.fr hf (by simpa using htb), hlt, h.c.nv, h.c.nF, hfr, h.c.gv, h.c.gF, h.c.gp⟩, h.vv, h.FF⟩
/-- The world within the region where both step: which operations have run. -/
structure BlR (w : World) (v v2 p p2 F F2 b mm cap : Nat) (A : Option Addr) (t : List Pg) (x X : Vm) (s1 s2 T1 T2 : St) (ek en : Int) (z4 z9 z10 z11 z12 z13 : Bool) (g1 g2 : Nat) (W : World) : Prop where
  d : Duo w W v v2 p p2 F F2 b mm cap A t (bif z4 then X else x) (bif z9 then X else x) (bif z4 then T1 else s1) (bif z9 then T2 else s2)
  b1 : z10 = true → Blk W g1 65 (bif z12 then #[.int .i64 ek, .int .i64 en] else #[.int .i64 0, .int .i64 0]) ∧ w.heap.size ≤ g1 ∧ b ≠ g1
  b2 : z11 = true → Blk W g2 65 (bif z13 then #[.int .i64 ek, .int .i64 en] else #[.int .i64 0, .int .i64 0]) ∧ w.heap.size ≤ g2 ∧ b ≠ g2
  ne : z10 = true → z11 = true → g1 ≠ g2
variable {X : Vm} {T1 T2 : St} {ek en : Int} {z4 z9 z10 z11 z12 z13 : Bool} {g1 g2 : Nat}
theorem BlR.one (h : BlR w v v2 p p2 F F2 b mm cap A t x X s1 s2 T1 T2 ek en false z9 z10 z11 z12 z13 g1 g2 W) (hs : stepV x s1 t = ((ek, en), X, T1)) : Calls Try.prog 34 #[ptr v, ptr p, .slice A mm cap] W fun e w' => e = .returned (.agg #[.int .i64 ek, .int .i64 en]) ∧ BlR w v v2 p p2 F F2 b mm cap A t x X s1 s2 T1 T2 ek en true z9 z10 z11 z12 z13 g1 g2 w' := by
  refine (h.d.oneF hs).mono fun e w' ⟨he, hd, hf⟩ => ⟨he, hd, fun hz => ?_, fun hz => ?_, h.ne⟩
  · obtain ⟨hb, hg, ht⟩ := h.b1 hz
    obtain ⟨n1, n2, -, -⟩ := h.d.ev hb
    exact ⟨hb.fr hf (by simp [n1, n2]), hg, ht⟩
  · obtain ⟨hb, hg, ht⟩ := h.b2 hz
    obtain ⟨n1, n2, -, -⟩ := h.d.ev hb
    exact ⟨hb.fr hf (by simp [n1, n2]), hg, ht⟩
theorem BlR.two (h : BlR w v v2 p p2 F F2 b mm cap A t x X s1 s2 T1 T2 ek en z4 false z10 z11 z12 z13 g1 g2 W) (hs : stepV x s2 t = ((ek, en), X, T2)) : Calls Try.prog 34 #[ptr v2, ptr p2, .slice A mm cap] W fun e w' => e = .returned (.agg #[.int .i64 ek, .int .i64 en]) ∧ BlR w v v2 p p2 F F2 b mm cap A t x X s1 s2 T1 T2 ek en z4 true z10 z11 z12 z13 g1 g2 w' := by
  refine (h.d.swap.oneF hs).mono fun e w' ⟨he, hd, hf⟩ => ⟨he, hd.swap, fun hz => ?_, fun hz => ?_, h.ne⟩
  · obtain ⟨hb, hg, ht⟩ := h.b1 hz
    obtain ⟨-, -, n1, n2⟩ := h.d.ev hb
    exact ⟨hb.fr hf (by simp [n1, n2]), hg, ht⟩
  · obtain ⟨hb, hg, ht⟩ := h.b2 hz
    obtain ⟨-, -, n1, n2⟩ := h.d.ev hb
    exact ⟨hb.fr hf (by simp [n1, n2]), hg, ht⟩
theorem BlR.al1 (h : BlR w v v2 p p2 F F2 b mm cap A t x X s1 s2 T1 T2 ek en z4 z9 false z11 false z13 g1 g2 W) : BlR w v v2 p p2 F F2 b mm cap A t x X s1 s2 T1 T2 ek en z4 z9 true z11 false z13 W.heap.size g2 (W.alloc (.cells #[.int .i64 0, .int .i64 0] 65)) := by
  refine ⟨h.d.to ((Fr.refl [] W).alloc _), fun _ => ⟨Blk.new W 65 _, h.d.a.fr.size, Nat.ne_of_lt h.d.a.lt⟩, fun hz => ?_, fun _ hz => ?_⟩
  · obtain ⟨hb, hg, ht⟩ := h.b2 hz
    exact ⟨hb.alloc _, hg, ht⟩
  · exact (Nat.ne_of_lt (h.b2 hz).1.lt).symm
theorem BlR.al2 (h : BlR w v v2 p p2 F F2 b mm cap A t x X s1 s2 T1 T2 ek en z4 z9 z10 false z12 false g1 g2 W) : BlR w v v2 p p2 F F2 b mm cap A t x X s1 s2 T1 T2 ek en z4 z9 z10 true z12 false g1 W.heap.size (W.alloc (.cells #[.int .i64 0, .int .i64 0] 65)) := by
  refine ⟨h.d.to ((Fr.refl [] W).alloc _), fun hz => ?_, fun _ => ⟨Blk.new W 65 _, h.d.a.fr.size, Nat.ne_of_lt h.d.a.lt⟩, fun hz _ => ?_⟩
  · obtain ⟨hb, hg, ht⟩ := h.b1 hz
    exact ⟨hb.alloc _, hg, ht⟩
  · exact Nat.ne_of_lt (h.b1 hz).1.lt
theorem BlR.st1 (h : BlR w v v2 p p2 F F2 b mm cap A t x X s1 s2 T1 T2 ek en z4 z9 true z11 false z13 g1 g2 W) : BlR w v v2 p p2 F F2 b mm cap A t x X s1 s2 T1 T2 ek en z4 z9 true z11 true z13 g1 g2 ((W.setCell ⟨g1, 0, none⟩ (.int .i64 ek)).setCell ⟨g1, 1, none⟩ (.int .i64 en)) := by
  obtain ⟨hb, hg, ht⟩ := h.b1 rfl
  have hb1 := hb.set_ 0 (.int .i64 ek)
  refine ⟨(h.d.set_ hb hg ht 0 _).set_ hb1 hg ht 1 _, fun _ => ⟨hb1.set_ 1 (.int .i64 en), hg, ht⟩, fun hz => ?_, h.ne⟩
  obtain ⟨hb', hg', ht'⟩ := h.b2 hz
  have hn := h.ne rfl hz
  exact ⟨(hb'.far (p := ⟨g1, 0, none⟩) (fun e => hn e.symm) _).far (p := ⟨g1, 1, none⟩) (fun e => hn e.symm) _, hg', ht'⟩
theorem BlR.st2 (h : BlR w v v2 p p2 F F2 b mm cap A t x X s1 s2 T1 T2 ek en z4 z9 z10 true z12 false g1 g2 W) : BlR w v v2 p p2 F F2 b mm cap A t x X s1 s2 T1 T2 ek en z4 z9 z10 true z12 true g1 g2 ((W.setCell ⟨g2, 0, none⟩ (.int .i64 ek)).setCell ⟨g2, 1, none⟩ (.int .i64 en)) := by
  obtain ⟨hb, hg, ht⟩ := h.b2 rfl
  have hb1 := hb.set_ 0 (.int .i64 ek)
  refine ⟨(h.d.set_ hb hg ht 0 _).set_ hb1 hg ht 1 _, fun hz => ?_, fun _ => ⟨hb1.set_ 1 (.int .i64 en), hg, ht⟩, h.ne⟩
  obtain ⟨hb', hg', ht'⟩ := h.b1 hz
  have hn := h.ne hz rfl
  exact ⟨(hb'.far (p := ⟨g2, 0, none⟩) hn _).far (p := ⟨g2, 1, none⟩) hn _, hg', ht'⟩
end
/-- Is a frame in one of the first k pages? -/
def inT (t : List Pg) (i : Nat) (k : Nat) : Bool := (t.take k).any fun p => decide (p.f = (i : Int))
theorem inT_succ {t : List Pg} {i k : Nat} {p : Pg} (hp : t[k]? = some p) : inT t i (k + 1) = (inT t i k || decide (p.f = (i : Int))) := by
  unfold inT
  rw [List.take_add_one, hp]
  simp
set_option maxHeartbeats 4000000 in
theorem blind_bad (n : Int) (LA : Option Addr) (nl cl : Nat) (TA : Option Addr) (nt ct : Nat) (s : Int) (RA : Option Addr) (na ca : Nat) (o : ByteArray) (w : World) (h : n < 1 ∨ 160 < n) :
    Calls Try.prog 7 #[.agg #[.int .i64 n, .slice LA nl cl, .slice TA nt ct], .agg #[.int .i64 s, .slice RA na ca], .string o] w fun e w' => e = .returned (.bool true) ∧ Fr [] w w' := by
  have H0 := Lib.hid (((Fr.refl [] w).alloc (.cells #[.int .i64 n, .slice LA nl cl, .slice TA nt ct] 72)).alloc (.cells #[.int .i64 s, .slice RA na ca] 75))
  have HB := Lib.hid ((Blk.new w 72 #[.int .i64 n, .slice LA nl cl, .slice TA nt ct]).alloc (.cells #[.int .i64 s, .slice RA na ca] 75))
  have HB2 := Lib.hid (Blk.new' (w := w.alloc (.cells #[.int .i64 n, .slice LA nl cl, .slice TA nt ct] 72)) (t := 75) (cs := #[.int .i64 s, .slice RA na ca]) (g := w.heap.size + 1) (by simp))
  generalize hW0 : (w.alloc (.cells #[.int .i64 n, .slice LA nl cl, .slice TA nt ct] 72)).alloc (.cells #[.int .i64 s, .slice RA na ca] 75) = W0 at *
  have HK := Lib.hid (fun W (hf : Fr [] W0 W) => (show W.cell? ⟨w.heap.size, 0, none⟩ = some (.int .i64 n) ∧ W.cell? ⟨w.heap.size, 1, none⟩ = some (.slice LA nl cl) ∧ W.cell? ⟨w.heap.size, 2, none⟩ = some (.slice TA nt ct) from ⟨(HB.out.fr hf (by simp)).cell 0, (HB.out.fr hf (by simp)).cell 1, (HB.out.fr hf (by simp)).cell 2⟩))
  have H1 := Lib.hid (fun W => made_bad n LA nl cl TA nt ct W h)
  have H2 := Lib.hid (fun W => rNew_bad n W h)
  have HV := Lib.hid vNew_any
  have HFx := Lib.hid lFixed_any
  obtain ⟨k0, k1, k2⟩ := HK.out W0 (Fr.refl _ _)
  clear h
  go_enter Try.func7, Try.ntmps7
  go_wp2_with (first
    | (go_at_call 40; refine (H1.out _).mono ?_; rintro e w1 ⟨rfl, hf⟩; have HF1 := Lib.hid hf; obtain ⟨a0, a1, a2⟩ := HK.out _ HF1.out; clear hf k0 k1 k2)
    | (go_at_call 40; refine (H1.out _).mono ?_; clear H1; rintro e w2 ⟨rfl, hf⟩; have HF2 := Lib.hid (HF1.out.trans hf); clear hf a0 a1 a2)
    | (go_at_call 30; refine (HV.out _).mono ?_; rintro e w3 ⟨rfl, -, hf⟩; have HF3 := Lib.hid (HF2.out.trans hf); clear hf HF2)
    | (go_at_call 30; refine (HV.out _).mono ?_; clear HV; rintro e w4 ⟨rfl, -, hf⟩; have HF4 := Lib.hid (HF3.out.trans hf); clear hf HF3; obtain ⟨a0, a1, a2⟩ := HK.out _ HF4.out)
    | (go_at_call 41; refine (H2.out _).mono ?_; rintro e w5 ⟨rfl, rfl⟩)
    | (go_at_call 37; refine (HFx.out _).mono ?_; rintro e w6 ⟨rfl, hf⟩; have HF6 := Lib.hid ((H0.out.trans HF4.out).trans hf); clear hf)
    | fail)
  go_ret
  exact ⟨rfl, HF6.out⟩
set_option maxHeartbeats 8000000 in
theorem blind_ok (n : Nat) (h1 : 1 ≤ n) (h2 : n ≤ 160) (LA : Option Addr) (nl cl : Nat) (l : Nat → ByteArray) (TA : Option Addr) (nt ct b : Nat) (t : List Pg) (s : Int) (RA : Option Addr) (na ca : Nat) (o : ByteArray) (w : World) (hl : PrZ w LA nl l) (ht : Tb w b (.slice TA nt ct) t) (hb : b < w.heap.size ∨ b = 0) (ho : o.size ≤ maxLen) :
    Calls Try.prog 7 #[.agg #[.int .i64 (n : Int), .slice LA nl cl, .slice TA nt ct], .agg #[.int .i64 s, .slice RA na ca], .string o] w fun e w' => e = .returned (.bool true) ∧ Fr [] w w' := by
  have H0 := Lib.hid (((Fr.refl [] w).alloc (.cells #[.int .i64 (n : Int), .slice LA nl cl, .slice TA nt ct] 72)).alloc (.cells #[.int .i64 s, .slice RA na ca] 75))
  have HB := Lib.hid ((Blk.new w 72 #[.int .i64 (n : Int), .slice LA nl cl, .slice TA nt ct]).alloc (.cells #[.int .i64 s, .slice RA na ca] 75))
  have HB2 := Lib.hid (Blk.new' (w := w.alloc (.cells #[.int .i64 (n : Int), .slice LA nl cl, .slice TA nt ct] 72)) (t := 75) (cs := #[.int .i64 s, .slice RA na ca]) (g := w.heap.size + 1) (by simp))
  generalize hW0 : (w.alloc (.cells #[.int .i64 (n : Int), .slice LA nl cl, .slice TA nt ct] 72)).alloc (.cells #[.int .i64 s, .slice RA na ca] 75) = W0 at *
  have hz0 := HB2.out.lt
  have HK := Lib.hid (fun W (hf : Fr [] W0 W) => (show W.cell? ⟨w.heap.size, 0, none⟩ = some (.int .i64 (n : Int)) ∧ W.cell? ⟨w.heap.size, 1, none⟩ = some (.slice LA nl cl) ∧ W.cell? ⟨w.heap.size, 2, none⟩ = some (.slice TA nt ct) ∧ W.cell? ⟨w.heap.size + 1, 0, none⟩ = some (.int .i64 s) from ⟨(HB.out.fr hf (by simp)).cell 0, (HB.out.fr hf (by simp)).cell 1, (HB.out.fr hf (by simp)).cell 2, (HB2.out.fr hf (by simp)).cell 0⟩))
  have H1 := Lib.hid (fun W (hf : Fr [] W0 W) => made_ok n LA nl cl l TA nt ct W h1 h2 ((hl.fr H0.out).fr hf))
  unfold MadeP at H1
  have HV := Lib.hid vNew_any
  have HFx := Lib.hid lFixed_any
  obtain ⟨N, eN, hN⟩ : ∃ N : Nat, s % 400 = (N : Int) ∧ N < 400 := ⟨(s % 400).toNat, by omega, by omega⟩
  have HPl := Lib.hid (fun W => (show Calls Try.prog 39 #[.int .i64 s, .int .i64 400] W fun e w' => e = .returned (.int .i64 (N : Int)) ∧ W = w' by have := lPlace_any s 400 (by decide) (by decide) W; rwa [eN] at this))
  have HD : Hid (∀ W v v2 p p2 F F2, VmAt W v vm0 → VmAt W v2 vm0 → MemAt W p F (layN n l nl) → MemAt W p2 F2 (layN n l nl) → v < v2 → F < F2 → Fr [] W0 W → W0.heap.size ≤ v → W0.heap.size ≤ F → W0.heap.size ≤ p → W0.heap.size ≤ p2 → Duo W0 W v v2 p p2 F F2 b nt ct TA t vm0 vm0 (layN n l nl) (layN n l nl)) := Lib.hid (fun W v v2 p p2 F F2 q1 q2 q3 q4 q5 q6 q7 q8 q9 q10 q11 => ⟨MW.of q1 q3 ht hb H0.out (by omega) q7 q8 q9 q10, MW.of q2 q4 ht hb H0.out (by omega) q7 (by omega) (by omega) q11, by omega, by omega⟩)
  have hTl := ht.n_eq
  have hTz := ht.len
  rw [← hTl] at hTz
  simp only [maxLen] at hTz
  have HLn := Lib.hid (layN_n n l nl)
  have hno : (layN n l nl).n = n := layN_n n l nl
  have HoS := Lib.hid ho
  have HTl := Lib.hid hTl
  have HTb := Lib.hid ht
  generalize layN n l nl = S1 at *
  obtain ⟨k0, k1, k2, k3⟩ := HK.out W0 (Fr.refl _ _)
  clear hl ht hb eN hTl ho hno
  go_enter Try.func7, Try.ntmps7
  go_wp2_with (first
    | (go_at_call 40; refine (H1.out _ (Fr.refl _ _)).mono ?_; rintro e w1 ⟨p, F, q, G, rfl, hd⟩; have HM1 := Lib.hid hd; clear hd k0 k1 k2 k3; obtain ⟨a0, a1, a2, a3⟩ := HK.out _ HM1.out.fr)
    | (go_at_call 40; refine (H1.out _ HM1.out.fr).mono ?_; clear H1; rintro e w2 ⟨p2, F2, q2, G2, rfl, hd⟩; have HM2 := Lib.hid hd; clear hd a0 a1 a2 a3)
    | (go_at_call 30; have _t := HV3; refine (HV.out _).mono ?_; clear HV; rintro e w4 ⟨rfl, hv, hf⟩; have HV4 := Lib.hid (And.intro hv hf); clear hv hf)
    | (go_at_call 30; refine (HV.out _).mono ?_; rintro e w3 ⟨rfl, hv, hf⟩; have HV3 := Lib.hid (And.intro hv hf); clear hv hf)
    | fail)
  have HD0 := Lib.hid (HD.out w4 w2.heap.size w3.heap.size p p2 F F2 (HV3.out.1.fr HV4.out.2 (by simp)) HV4.out.1 (((HM1.out.m.to HM2.out.fr (by simp) (by simp)).to HV3.out.2 (by simp) (by simp)).to HV4.out.2 (by simp) (by simp)) ((HM2.out.m.to HV3.out.2 (by simp) (by simp)).to HV4.out.2 (by simp) (by simp)) HV3.out.1.lt (by have := HM1.out.m.ltF; have := HM2.out.gp.2.1; omega) (((HM1.out.fr.trans HM2.out.fr).trans HV3.out.2).trans HV4.out.2) (by have := (HM1.out.fr.trans HM2.out.fr).size; omega) HM1.out.gp.2.1 HM1.out.gp.1 (by have := HM1.out.fr.size; have := HM2.out.gp.1; omega))
  clear HD HM1 HM2 HV3 HV4
  generalize w2.heap.size = v at *
  generalize w3.heap.size = v2 at *
  obtain ⟨w5, hw5⟩ : ∃ W, W = w4 := ⟨_, rfl⟩
  go_loopg [15, 16, 17] n (fun gg vi v16 v17 wr => ∃ (i : Nat) (st2 : St), i + gg = n ∧ vi = .int .i64 (i : Int) ∧ Duo W0 wr v v2 p p2 F F2 b nt ct TA t vm0 vm0 S1 st2 ∧ AlkS t S1 st2)
  case atStart => exact ⟨0, S1, by omega, rfl, HD0.out, ⟨rfl, fun _ _ _ _ _ => rfl⟩⟩
  case round =>
    obtain ⟨i, st2, hi, rfl, hd, hk⟩ := hrel
    have Hi := Lib.hid hi
    have Hd := Lib.hid hd
    have Hk := Lib.hid hk
    obtain ⟨a0, a1, a2, a3⟩ := HK.out _ hd.a.fr
    by_cases hlt : i < n
    · have hlt1 : (i : Int) < (n : Int) := by omega
      have hi0 : (0 : Int) ≤ (i : Int) := by omega
      have hwi : IntKind.i64.wrap ((i : Int) + 1) = (i : Int) + 1 := IntWalk.i64_in _ (by omega)
      clear hi hd hk
      go_wp2_with fail
      obtain ⟨wr1, rfl⟩ : ∃ W, W = wr := ⟨_, rfl⟩
      go_loopg [16, 17] nt (fun gg v16 v17 wr => ∃ (k : Nat), k + gg = nt ∧ v17 = .int .i64 (k : Int) ∧ v16 = .bool (inT t i k) ∧ wr = wr1)
      case atStart => exact ⟨0, by omega, rfl, rfl, rfl⟩
      case round =>
        obtain ⟨k, hk, rfl, rfl, rfl⟩ := hrel
        have Hkk := Lib.hid hk
        by_cases hlk : k < nt
        · have hlk1 : (k : Int) < (nt : Int) := by omega
          have hk0 : (0 : Int) ≤ (k : Int) := by omega
          have hwk : IntKind.i64.wrap ((k : Int) + 1) = (k : Int) + 1 := IntWalk.i64_in _ (by omega)
          obtain ⟨pg, hpg⟩ : ∃ pg, t[k]? = some pg := ⟨_, List.getElem?_eq_getElem (by have := HTl.out; omega)⟩
          have HIn := Lib.hid (inT_succ (i := i) hpg)
          obtain ⟨off, rfl, -, c0, -⟩ := Hd.out.a.tb.at_ hpg
          clear hk hpg
          generalize inT t i k = C at *
          generalize pg.f = fp at *
          cases C with
          | true =>
            go_wp2_with fail
            go_roundg (nt - (k + 1))
            case measure => have := Hkk.out; omega
            case rel => exact ⟨k + 1, by have := Hkk.out; omega, by go_num, by rw [HIn.out]; rfl, rfl⟩
          | false =>
            by_cases hpf : fp = (i : Int)
            · subst hpf
              have hpb : ((i : Int) == (i : Int)) = true := by simp
              go_wp2_with fail
              go_roundg (nt - (k + 1))
              case measure => have := Hkk.out; omega
              case rel => exact ⟨k + 1, by have := Hkk.out; omega, by go_num, by rw [HIn.out]; simp, rfl⟩
            · have hpb : (fp == (i : Int)) = false := beq_eq_false_iff_ne.2 hpf
              have HpF := Lib.hid hpf
              clear hpf
              go_wp2_with fail
              go_roundg (nt - (k + 1))
              case measure => have := Hkk.out; omega
              case rel => exact ⟨k + 1, by have := Hkk.out; omega, by go_num, by rw [HIn.out]; simp [HpF.out], rfl⟩
        · have hlk1 : ¬ (k : Int) < (nt : Int) := by omega
          obtain rfl : nt = k := by omega
          have hin : inT t i nt = t.any fun p => decide (p.f = (i : Int)) := by unfold inT; rw [HTl.out, List.take_length]
          clear hk hlk
          cases hC : inT t i nt with
          | true =>
            clear hin hC
            go_wp2_with fail
            go_roundg (n - (i + 1))
            case measure => have := Hi.out; omega
            case rel => exact ⟨i + 1, st2, by have := Hi.out; omega, by go_num, Hd.out, Hk.out⟩
          | false =>
            have HnoI : Hid (∀ p ∈ t, p.f ≠ (i : Int)) := Lib.hid (fun p hp e => by
              rw [hin] at hC
              have := List.any_eq_false.1 hC p hp
              simp [e] at this)
            have HLy := Lib.hid (Hd.out.lay (i : Int) o HoS.out)
            generalize layE st2.n (i : Int) 0 o = E0 at *
            clear hin hC
            go_wp2_with (first
              | (go_at_call 31; refine HLy.out.mono ?_; clear HLy; rintro e w6 ⟨rfl, hd6⟩)
              | fail)
            go_roundg (n - (i + 1))
            case measure => have := Hi.out; omega
            case rel => exact ⟨i + 1, _, by have := Hi.out; omega, by go_num, hd6, Hk.out.lay HnoI.out o⟩
    · have hlt1 : ¬ (i : Int) < (n : Int) := by omega
      clear hi hd hk hlt
      go_wp2_with fail
      clear a0 a1 a2 a3
      obtain ⟨wr1, rfl⟩ : ∃ W, W = wr := ⟨_, rfl⟩
      have HEx : Hid (∃ x s1 s2, Duo W0 wr1 v v2 p p2 F F2 b nt ct TA t x x s1 s2 ∧ AlkS t s1 s2) := Lib.hid ⟨_, _, _, Hd.out, Hk.out⟩
      clear Hd Hk HD0 Hi
      go_loopg [18] N (fun gg vi wr => ∃ (j : Nat) (x : Vm) (s1 s2 : St), j + gg = N ∧ vi = .int .i64 (j : Int) ∧ Duo W0 wr v v2 p p2 F F2 b nt ct TA t x x s1 s2 ∧ AlkS t s1 s2)
      case atStart =>
        obtain ⟨x, s1, s2, h1, h2⟩ := HEx.out
        exact ⟨0, x, s1, s2, by omega, rfl, h1, h2⟩
      case round =>
        obtain ⟨j, x, s1, s2, hj, rfl, hd, hk⟩ := hrel
        have Hj := Lib.hid hj
        have Hd := Lib.hid hd
        obtain ⟨a0, a1, a2, a3⟩ := HK.out _ hd.a.fr
        by_cases hlt : j < N
        · have hlt1 : (j : Int) < (N : Int) := by omega
          have hj0 : (0 : Int) ≤ (j : Int) := by omega
          have hwj : IntKind.i64.wrap ((j : Int) + 1) = (j : Int) + 1 := IntWalk.i64_in _ (by omega)
          obtain ⟨q1, q2, q3⟩ := hk.step x
          have q4 := (stepV_ok x s1 t).1
          obtain ⟨⟨EV, X, T1⟩, hs1⟩ : ∃ q, stepV x s1 t = q := ⟨_, rfl⟩
          obtain ⟨⟨EV2, X2, T2⟩, hs2⟩ : ∃ q, stepV x s2 t = q := ⟨_, rfl⟩
          rw [hs1, hs2] at q1 q2 q3
          rw [hs1] at q4
          simp only at q1 q2 q3 q4
          subst q1 q2
          have HOne := Lib.hid (fun W y u2 (h : Duo W0 W v v2 p p2 F F2 b nt ct TA t x y s1 u2) => h.one hs1)
          have HTwo := Lib.hid (fun W y u1 (h : Duo W0 W v v2 p p2 F F2 b nt ct TA t y x u1 s2) => h.two hs2)
          have HAk := Lib.hid q3
          have HEv := Lib.hid q4
          have H3 : Hid (EV.1 = 3 → X.wt = true) := Lib.hid (fun e => by
            unfold EvOk at q4
            rcases q4 with h | h | h | h
            · omega
            · omega
            · omega
            · exact h.2)
          obtain ⟨ek, en⟩ := EV
          simp only at H3 HOne HTwo
          have HKd := Lib.hid (fun W (h : Fr [] W0 W) => (HK.out W h).2.2.1)
          have HS1 := Lib.hid hs1
          have HS2 := Lib.hid hs2
          have R0 : Hid (BlR W0 v v2 p p2 F F2 b nt ct TA t x X s1 s2 T1 T2 ek en false false false false false false 0 0 wr.drew) := Lib.hid ⟨hd.to (Fr.refl [] _).drew, (fun h => by cases h), (fun h => by cases h), (fun h => by cases h)⟩
          clear HOne HTwo
          clear hj hd hk q3 q4 hs1 hs2 a0 a1
          go_wp2_with (first
            | (go_at_call 39; refine (HPl.out _).mono ?_; rintro e w6 ⟨rfl, rfl⟩)
            | fail)
          --REGION
          have hmx : Try.prog.follows .mixedOrders = true := by kernel_rfl
          refine (wpIn_wide (n := 3)).1 ?_
          refine wpIn_region_inv2 hmx (by kernel_rfl) (fun L' a w' => ∃ g1, ∃ g2, a = { tmps := #[Value.agg #[Value.int IntKind.i64 (n : Int), Value.slice LA nl cl, Value.slice TA nt ct], Value.agg #[Value.int IntKind.i64 s, Value.slice RA na ca], Value.string o, Value.pointer (some ⟨w.heap.size, 0, none⟩), Value.pointer (some ⟨w.heap.size + 1, 0, none⟩), undef, u6, ptr p, ptr q, ptr p2, ptr q2, ptr v, ptr v2, undef, undef, Value.int IntKind.i64 (i : Int), u16, u17, Value.int IntKind.i64 (j : Int), bif L'.getD 10 false then ptr g1 else u19, bif L'.getD 11 false then ptr g2 else u20, undef, Value.tuple #[ptr p, ptr q], Value.agg #[Value.int IntKind.i64 (n : Int), Value.slice LA nl cl, Value.slice TA nt ct], Value.tuple #[ptr p, ptr q], ptr p, ptr q, Value.tuple #[ptr p2, ptr q2], Value.agg #[Value.int IntKind.i64 (n : Int), Value.slice LA nl cl, Value.slice TA nt ct], Value.tuple #[ptr p2, ptr q2], ptr p2, ptr q2, ptr v, ptr v2, ptr p, Value.bool false, Value.bool false, ptr p2, Value.bool false, Value.bool false, undef, undef, undef, undef, undef, undef, undef, undef, undef, undef, undef, ptr v, Value.bool false, Value.bool false, ptr v2, Value.bool false, Value.bool false, Value.int IntKind.i64 (i : Int), Value.pointer (some ⟨w.heap.size, 0, none⟩), Value.int IntKind.i64 (n : Int), Value.bool false, u61, u62, u63, u64, u65, u66, u67, u68, u69, u70, u71, u72, u73, u74, u75, u76, u77, u78, u79, u80, u81, u82, u83, u84, u85, u86, Value.int IntKind.i64 (j : Int), Value.pointer (some ⟨w.heap.size + 1, 0, none⟩), Value.int IntKind.i64 s, Value.int IntKind.i64 (N : Int), Value.bool true, u92, u93, bif L'.getD 0 false then ptr v else u94, bif L'.getD 1 false then ptr p else u95, bif L'.getD 2 false then Value.pointer (some ⟨w.heap.size, 2, none⟩) else u96, bif L'.getD 3 false then .slice TA nt ct else u97, bif L'.getD 4 false then .agg #[.int .i64 ek, .int .i64 en] else u98, bif L'.getD 5 false then ptr v2 else u99, bif L'.getD 6 false then ptr p2 else u100, bif L'.getD 7 false then Value.pointer (some ⟨w.heap.size, 2, none⟩) else u101, bif L'.getD 8 false then .slice TA nt ct else u102, bif L'.getD 9 false then .agg #[.int .i64 ek, .int .i64 en] else u103, u104, u105, u106, u107, u108, u109, u110, u111, u112, u113, u114, u115, u116, u117, u118, u119, u120, u121, u122, u123, u124, u125, u126, u127, undef, undef, undef, undef, undef, undef, undef, undef, undef, undef, undef, undef], defers := [] } ∧ BlR W0 v v2 p p2 F F2 b nt ct TA t x X s1 s2 T1 T2 ek en (L'.getD 4 false) (L'.getD 9 false) (L'.getD 10 false) (L'.getD 11 false) (L'.getD 12 false) (L'.getD 13 false) g1 g2 w') ⟨0, 0, rfl, R0.out⟩ ?_ ?_
          · rintro ⟨L'⟩ _ w' i o hs ho hf hp hc ⟨g1, g2, rfl, hR⟩
            match L', hs with
            | [z0, z1, z2, z3, z4, z5, z6, z7, z8, z9, z10, z11, z12, z13], _ =>
            have R : BlR W0 v v2 p p2 F F2 b nt ct TA t x X s1 s2 T1 T2 ek en (z4) (z9) (z10) (z11) (z12) (z13) g1 g2 w' := hR
            clear hR
            match i, ho with
            | 0, ho =>
              injection ho with ho
              subst ho
              clear hc
              simp [Region.binds] at hf hp
              refine wpOpIn_step rfl (fun K' hK' => ?_)
              go_simp
              exact hK' _ _ ⟨g1, g2, by simp [hf, hp], R⟩
            | 1, ho =>
              injection ho with ho
              subst ho
              clear hc
              simp [Region.binds] at hf hp
              refine wpOpIn_step rfl (fun K' hK' => ?_)
              go_simp
              exact hK' _ _ ⟨g1, g2, by simp [hf, hp], R⟩
            | 2, ho =>
              injection ho with ho
              subst ho
              clear hc
              simp [Region.binds] at hf hp
              refine wpOpIn_step rfl (fun K' hK' => ?_)
              go_simp
              exact hK' _ _ ⟨g1, g2, by simp [hf, hp], R⟩
            | 3, ho =>
              injection ho with ho
              subst ho
              clear hc
              simp [Region.binds] at hf hp
              have a2 := HKd.out _ R.d.a.fr
              refine wpOpIn_step rfl (fun K' hK' => ?_)
              go_simp
              exact hK' _ _ ⟨g1, g2, by simp [hf, hp], R⟩
            | 4, ho =>
              injection ho with ho
              subst ho
              clear hc
              simp [Region.binds] at hf hp
              have R' := R
              rw [hf] at R'
              have hC := R'.one HS1.out
              clear R R'
              refine wpOpIn_step rfl (fun K' hK' => ?_)
              go_simp
              refine ⟨trivial, (callsIn_wide.2 hC).mono ?_⟩
              rintro e w2 ⟨rfl, hR2⟩
              exact hK' _ _ ⟨g1, g2, by simp [hf, hp], hR2⟩
            | 5, ho =>
              injection ho with ho
              subst ho
              clear hc
              simp [Region.binds] at hf hp
              refine wpOpIn_step rfl (fun K' hK' => ?_)
              go_simp
              exact hK' _ _ ⟨g1, g2, by simp [hf, hp], R⟩
            | 6, ho =>
              injection ho with ho
              subst ho
              clear hc
              simp [Region.binds] at hf hp
              refine wpOpIn_step rfl (fun K' hK' => ?_)
              go_simp
              exact hK' _ _ ⟨g1, g2, by simp [hf, hp], R⟩
            | 7, ho =>
              injection ho with ho
              subst ho
              clear hc
              simp [Region.binds] at hf hp
              refine wpOpIn_step rfl (fun K' hK' => ?_)
              go_simp
              exact hK' _ _ ⟨g1, g2, by simp [hf, hp], R⟩
            | 8, ho =>
              injection ho with ho
              subst ho
              clear hc
              simp [Region.binds] at hf hp
              have a2 := HKd.out _ R.d.a.fr
              refine wpOpIn_step rfl (fun K' hK' => ?_)
              go_simp
              exact hK' _ _ ⟨g1, g2, by simp [hf, hp], R⟩
            | 9, ho =>
              injection ho with ho
              subst ho
              clear hc
              simp [Region.binds] at hf hp
              have R' := R
              rw [hf] at R'
              have hC := R'.two HS2.out
              clear R R'
              refine wpOpIn_step rfl (fun K' hK' => ?_)
              go_simp
              refine ⟨trivial, (callsIn_wide.2 hC).mono ?_⟩
              rintro e w2 ⟨rfl, hR2⟩
              exact hK' _ _ ⟨g1, g2, by simp [hf, hp], hR2⟩
            | 10, ho =>
              injection ho with ho
              subst ho
              simp [Region.binds] at hf hp
              have k12 : z12 = false := hc.off (i := 12) (j := 10) (by kernel_rfl) hf
              clear hc
              have R' := R
              rw [hf, k12] at R'
              have R2 := Lib.hid R'.al1
              clear R R'
              refine wpOpIn_step rfl (fun K' hK' => ?_)
              go_simp
              exact hK' _ _ ⟨w'.heap.size, g2, by simp [hf, hp], by rw [k12]; exact R2.out⟩
            | 11, ho =>
              injection ho with ho
              subst ho
              simp [Region.binds] at hf hp
              have k13 : z13 = false := hc.off (i := 13) (j := 11) (by kernel_rfl) hf
              clear hc
              have R' := R
              rw [hf, k13] at R'
              have R2 := Lib.hid R'.al2
              clear R R'
              refine wpOpIn_step rfl (fun K' hK' => ?_)
              go_simp
              exact hK' _ _ ⟨g1, w'.heap.size, by simp [hf, hp], by rw [k13]; exact R2.out⟩
            | 12, ho =>
              injection ho with ho
              subst ho
              clear hc
              simp [Region.binds] at hf hp
              obtain ⟨k10, k4⟩ : z10 = true ∧ z4 = true := by simp [hp]
              have R' := R
              rw [hf, k10] at R'
              have R2 := Lib.hid R'.st1
              have c0 : w'.cell? ⟨g1, 0, none⟩ = some (.int .i64 0) := (R'.b1 rfl).1.cell 0
              have c1 : w'.cell? ⟨g1, 1, none⟩ = some (.int .i64 0) := (R'.b1 rfl).1.cell 1
              have cf := (R'.b1 rfl).1.frozen
              clear R R'
              refine wpOpIn_step rfl (fun K' hK' => ?_)
              go_simp
              exact hK' _ _ ⟨g1, g2, by simp [hf, hp], by rw [k10]; exact R2.out⟩
            | 13, ho =>
              injection ho with ho
              subst ho
              clear hc
              simp [Region.binds] at hf hp
              obtain ⟨k11, k9⟩ : z11 = true ∧ z9 = true := by simp [hp]
              have R' := R
              rw [hf, k11] at R'
              have R2 := Lib.hid R'.st2
              have c0 : w'.cell? ⟨g2, 0, none⟩ = some (.int .i64 0) := (R'.b2 rfl).1.cell 0
              have c1 : w'.cell? ⟨g2, 1, none⟩ = some (.int .i64 0) := (R'.b2 rfl).1.cell 1
              have cf := (R'.b2 rfl).1.frozen
              clear R R'
              refine wpOpIn_step rfl (fun K' hK' => ?_)
              go_simp
              exact hK' _ _ ⟨g1, g2, by simp [hf, hp], by rw [k11]; exact R2.out⟩
            | i + 14, ho => simp at ho
          · rintro _ w' ⟨g1, g2, rfl, hR⟩
            have R : BlR W0 v v2 p p2 F F2 b nt ct TA t x X s1 s2 T1 T2 ek en (true) (true) (true) (true) (true) (true) g1 g2 w' := hR
            clear hR
            --TAIL
            have e0 : w'.cell? ⟨g1, 0, none⟩ = some (.int .i64 ek) := (R.b1 rfl).1.cell 0
            have e1 : w'.cell? ⟨g1, 1, none⟩ = some (.int .i64 en) := (R.b1 rfl).1.cell 1
            have f0 : w'.cell? ⟨g2, 0, none⟩ = some (.int .i64 ek) := (R.b2 rfl).1.cell 0
            have f1 : w'.cell? ⟨g2, 1, none⟩ = some (.int .i64 en) := (R.b2 rfl).1.cell 1
            have HR : Hid (Duo W0 w' v v2 p p2 F F2 b nt ct TA t X X T1 T2) := Lib.hid R.d
            have HPa := Lib.hid (vPlace_any HR.out.a.vm)
            have HPc := Lib.hid (vPlace_any HR.out.c.vm)
            clear R R0
            generalize X.pl = PL at *
            obtain ⟨wi, rfl⟩ : ∃ wi : World, wi = wr := ⟨_, rfl⟩
            by_cases h3 : ek = 3
            · subst h3
              have hXw := H3.out rfl
              have HA1 := Lib.hid (fun (W : World) (hf : Fr [] w' W) (g c : Nat) (hb : Blk W g 3 #[.int .i64 (j : Int), .int .i64 1, .int .i64 2]) => (HR.out.to hf).ans (c := c) hXw hb)
              have HA2 := Lib.hid (fun (W : World) (h : Duo W0 W v v2 p p2 F F2 b nt ct TA t (ansV X (fun q => if q = 0 then (j : Int) else if q = 1 then 1 else 2)) X T1 T2) (g c : Nat) (hb : Blk W g 3 #[.int .i64 (j : Int), .int .i64 1, .int .i64 2]) => h.ans2 (c := c) hXw hb)
              clear hXw H3
              generalize ansV X (fun q => if q = 0 then (j : Int) else if q = 1 then 1 else 2) = Y at *
              go_wp2_with (first
                | (go_at_call 38; (with_reducible refine HPa.out.mono ?_); rintro e w8 ⟨rfl, rfl⟩)
                | (go_at_call 38; (with_reducible refine HPc.out.mono ?_); rintro e w8 ⟨rfl, rfl⟩)
                | (go_at_call 33; (with_reducible refine (HA1.out _ (by repeat (first | exact Fr.refl _ _ | (refine Fr.alloc ?_ _) | (refine Fr.setCell ?_ (.inr (by simp; try omega)) _))) _ _ (Blk.new' (by simp))).mono ?_); rintro e w9 ⟨rfl, hd9⟩)
                | (go_at_call 33; (with_reducible refine (HA2.out _ (hd9.to (by repeat (first | exact Fr.refl _ _ | (refine Fr.alloc ?_ _) | (refine Fr.setCell ?_ (.inr (by simp; try omega)) _)))) _ _ (Blk.new' (by simp))).mono ?_); rintro e w10 ⟨rfl, hd10⟩)
                | fail)
              go_roundg (N - (j + 1))
              case measure => have := Hj.out; omega
              case rel => exact ⟨j + 1, Y, T1, T2, by have := Hj.out; omega, by go_num, hd10, HAk.out⟩
            · have h3b : (ek == 3) = false := beq_eq_false_iff_ne.2 h3
              clear h3 H3
              go_wp2_with (first
                | (go_at_call 38; (with_reducible refine HPa.out.mono ?_); rintro e w8 ⟨rfl, rfl⟩)
                | (go_at_call 38; (with_reducible refine HPc.out.mono ?_); rintro e w8 ⟨rfl, rfl⟩)
                | fail)
              go_roundg (N - (j + 1))
              case measure => have := Hj.out; omega
              case rel => exact ⟨j + 1, X, T1, T2, by have := Hj.out; omega, by go_num, HR.out, HAk.out⟩
          --ENDREGION
        · have hlt1 : ¬ (j : Int) < (N : Int) := by omega
          have HRg := Lib.hid (fun (k : Nat) (hk : k < 16) => (vReg_in hd.a.vm k hk))
          have HRg2 := Lib.hid (fun (k : Nat) (hk : k < 16) => (vReg_in hd.c.vm k hk))
          have hlt2 : decide (j < N) = false := decide_eq_false hlt
          clear hj hd hk hlt
          go_wp2_with (first
            | (go_at_call 39; refine (HPl.out _).mono ?_; rintro e w6 ⟨rfl, rfl⟩)
            | fail)
          clear a0 a1 a2 a3
          obtain ⟨wr2, rfl⟩ : ∃ W, W = wr := ⟨_, rfl⟩
          go_loopg [21] 16 (fun gg vi wr => ∃ (k : Nat), k + gg = 16 ∧ vi = .int .i64 (k : Int) ∧ wr = wr2)
          case atStart => exact ⟨0, by omega, rfl, rfl⟩
          case round =>
            obtain ⟨k, hk, rfl, rfl⟩ := hrel
            have Hk2 := Lib.hid hk
            by_cases hlk : k < 16
            · have hlk1 : (k : Int) < 16 := by omega
              have hk0 : (0 : Int) ≤ (k : Int) := by omega
              have hwk : IntKind.i64.wrap ((k : Int) + 1) = (k : Int) + 1 := IntWalk.i64_in _ (by omega)
              have HQ1 := Lib.hid (HRg.out k hlk)
              have HQ2 := Lib.hid (HRg2.out k hlk)
              clear hk
              generalize x.r k = xk at *
              go_wp2_with (first
                | (go_at_call 36; (with_reducible refine HQ1.out.mono ?_); rintro e w6 ⟨rfl, rfl⟩)
                | (go_at_call 36; (with_reducible refine HQ2.out.mono ?_); rintro e w6 ⟨rfl, rfl⟩)
                | fail)
              go_roundg (16 - (k + 1))
              case measure => have := Hk2.out; omega
              case rel => exact ⟨k + 1, by have := Hk2.out; omega, by go_num, rfl⟩
            · have hlk1 : ¬ (k : Int) < 16 := by omega
              clear hk
              go_wp2_with (first
                | (go_at_call 37; refine (HFx.out _).mono ?_; rintro e w6 ⟨rfl, hf6⟩)
                | fail)
              go_ret
              exact ⟨rfl, (H0.out.trans Hd.out.a.fr).trans hf6⟩
theorem blind_walk (n : Int) (LA : Option Addr) (nl cl : Nat) (l : Nat → ByteArray) (TA : Option Addr) (nt ct b : Nat) (t : List Pg) (s : Int) (RA : Option Addr) (na ca : Nat) (o : ByteArray) (w : World) (hl : PrZ w LA nl l) (ht : Tb w b (.slice TA nt ct) t) (hb : b < w.heap.size ∨ b = 0) (ho : o.size ≤ maxLen) :
    Calls Try.prog 7 #[.agg #[.int .i64 n, .slice LA nl cl, .slice TA nt ct], .agg #[.int .i64 s, .slice RA na ca], .string o] w fun e w' => e = .returned (.bool true) ∧ Fr [] w w' := by
  by_cases h : n < 1 ∨ 160 < n
  · exact blind_bad n LA nl cl TA nt ct s RA na ca o w h
  · obtain ⟨k, rfl⟩ := Int.eq_ofNat_of_zero_le (by omega : 0 ≤ n)
    exact blind_ok k (by omega) (by omega) LA nl cl l TA nt ct b t s RA na ca o w hl ht hb ho
end Go.Proofs.Ytonongaakieciaa

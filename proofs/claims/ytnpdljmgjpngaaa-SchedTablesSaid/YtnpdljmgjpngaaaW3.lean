/- The iterator's contract, for callers; length. -/
import Derived.Test.YtnpdljmgjpngaaaIt
namespace Go.Proofs.Ytnpdljmgjpngaaa
open Go.RowKit Go.Shelf
attribute [local go_sem] Oper.semAt_some
set_option linter.unusedVariables false
set_option linter.unusedSimpArgs false

set_option maxHeartbeats 1000000 in
theorem spans_in (F : Fence) (n : Nat) (h39 : F.fn 39) (hro : F.round = none) (A : Option Addr) (len cap : Nat) (w : World) :
    CallsIn F n Try.prog 39 #[.slice A len cap] w fun e w' => e = .returned (.func (.func 47) #[] #[.pointer (some ⟨w.heap.size, 0, none⟩)]) ∧ w' = w.alloc (.cells #[.slice A len cap] 22) := by
  refine callsIn_of_wp Try.func39 rfl h39 ?_ hro
  simp only [Try.ntmps39, List.size_toArray, List.length_cons, List.length_nil, Nat.reduceAdd, Nat.reduceSub, Array.replicate_succ, Array.replicate_zero, List.push_toArray, List.append_toArray, List.nil_append, List.cons_append]
  gi_wp2
  go_ret
  exact ⟨rfl, rfl⟩

theorem WinsIn.below {B : Nat} {w w' : World} {v : Value} {l : List Win} (h : WinsIn w v l) (hb : Below B w w') (hB : w.heap.size ≤ B) : WinsIn w' v l := h.fr (Fr.of_below hb hB)
theorem WinsIn.addr {w : World} {A : Option Addr} {len cap : Nat} {ws : List Win} (h : WinsIn w (.slice A len cap) ws) (hl : 1 ≤ ws.length) : ∀ a, A = some a → a.block < w.heap.size := by
  obtain ⟨b, off, hA, hb, _⟩ := h.at_ (List.getElem?_eq_getElem (show 0 < ws.length by omega))
  intro a ha
  rw [ha] at hA
  injection hA with hA
  subst hA
  exact hb

theorem spans_stops (F : Fence) (n : Nat) (h47 : F.fn 47) (hro : F.round = none) (hn : 1 ≤ n) (Bs n₀ n₁ len cap : Nat) (A : Option Addr) (ws : List Win) (hok : okL ws = true) (hlen : len = ws.length) (w : World)
    (hBs : Bs < w.heap.size) (hn₀ : n₀ ≤ w.heap.size) (hn₁ : n₁ ≤ w.heap.size) (hc : w.cell? ⟨Bs, 0, none⟩ = some (.slice A len cap)) (hw : WinsIn w (.slice A len cap) ws) (hA : ∀ a, A = some a → a.block < n₀) :
    SeqStopsK F n Try.prog 47 #[.pointer (some ⟨Bs, 0, none⟩)] Sp.enc (KpS n₀ n₁) (fun ys => ys = spL ws hok) (fun pre => pre <+: spL ws hok) ws.length w := fun l J Jx W hW hJ _ hY h0 =>
  spans1_in F n h47 hro hn l Bs n₀ n₁ len cap A ws hok hlen J Jx hY W hJ ((hW.cell (p := ⟨Bs, 0, none⟩) hBs).trans hc) (hw.below hW (Nat.le_refl _)) hA (Nat.le_trans hn₀ hW.size) (Nat.le_trans hn₁ hW.size) h0

/-- A block of cells abides the turn of a block that is none. -/
theorem ownFrom_blk {β : Type} (B g : Nat) (t : TypeId) (cs : β → Array Value) : OwnFrom B (fun s W => Blk W g t (cs s)) := by
  intro s W W' row hs hg hr
  have hl := hs.lt
  unfold Blk at hs ⊢
  refine (hg.block g hl (fun e => ?_)).trans hs
  obtain ⟨_, o, ho, hc⟩ := hr g e.symm
  rw [hs] at ho
  injection ho with ho
  subst ho
  cases hc
theorem ownFrom_fr {β : Type} {B : Nat} {S : List Nat} {w : World} (hB : w.heap.size ≤ B) : OwnFrom B (fun (_ : β) W => Fr S w W) :=
  fun s W W' row hs hg hr => ⟨hg.os.trans hs.os, hg.tape.trans hs.tape, hg.output.trans hs.output, Nat.le_trans hs.size hg.size, fun k hk hn => (hg.block k (Nat.lt_of_lt_of_le hk hs.size) (fun e => by have := (hr k e.symm).1; omega)).trans (hs.block k hk hn)⟩
theorem Fr.putDef {S : List Nat} {w W : World} {D : Nat} {o o' : Obj} (h : Fr S w W) (hD : w.heap.size ≤ D) (hK : W.heap[D]? = some o) : Fr S w (W.putObj D o') :=
  h.step (Fr.of_grown (S := [D]) (grownBy_putObj' W D o') (fun k e => by cases e; simp)) (fun k hk => by simp at hk; subst hk; exact .inr hD)

theorem ownFrom_size {β : Type} (B k : Nat) : OwnFrom B (fun (_ : β) W => k ≤ W.heap.size) := fun s W W' row hs hg hr => Nat.le_trans hs hg.size

/-- The end of the last span that has come. -/
def lastTo (pre : List Sp) : Int := (pre.getLast?.map (·.to)).getD 0
theorem lastTo_snoc (pre : List Sp) (x : Sp) : lastTo (pre ++ [x]) = x.to := by simp [lastTo]
theorem lastTo_spTo (ws : List Win) (hok : okL ws = true) : ∀ k hk, lastTo (spTo ws hok k hk) = tot ws k := by
  intro k
  cases k with
  | zero => intro _; simp [spTo, lastTo, tot]
  | succ k => intro hk; rw [spTo, lastTo_snoc, tot_succ (List.getElem?_eq_getElem (show k < ws.length by omega))]; rfl

set_option maxRecDepth 100000 in
set_option maxHeartbeats 4000000 in
theorem length_in (F : Fence) (n : Nat) (h32 : F.fn 32) (h39 : F.fn 39) (h47 : F.fn 47) (hro : F.round = none) (hn : 3 ≤ n) (len cap : Nat) (A : Option Addr) (ws : List Win) (hok : okL ws = true) (w : World) (hw : WinsIn w (.slice A len cap) ws) :
    CallsIn F n Try.prog 32 #[.slice A len cap] w fun e w' => e = .returned (.int .i64 (tot ws ws.length)) ∧ Fr [] w w' := by
  have h1 : 1 ≤ n := by omega
  have hlen := Lib.hid hw.len
  have hA := hw.addr (okL_len hok).1
  have Hw := Lib.hid hw
  clear hw
  refine callsIn_of_wp_marks Try.func32 rfl h32 ?_ hro
  simp only [Try.ntmps32, List.size_toArray, List.length_cons, List.length_nil, Nat.reduceAdd, Nat.reduceSub, Array.replicate_succ, Array.replicate_zero, List.push_toArray, List.append_toArray, List.nil_append, List.cons_append]
  gi_wp2_with (gi_at_call 39; refine (spans_in F (n - 1) h39 hro _ _ _ _).mono ?_; rintro e w' ⟨rfl, rfl⟩)
  have bN := (Blk.new w 3 #[.int .i64 0]).alloc (.cells #[.slice A len cap] 22)
  have bS := (Blk.new (w.alloc (.cells #[.int .i64 0] 3)) 22 #[.slice A len cap]).cell 0
  have hf0 : Fr [] w ((w.alloc (.cells #[.int .i64 0] 3)).alloc (.cells #[.slice A len cap] 22)) := ((Fr.refl _ w).alloc _).alloc _
  have hsz : ((w.alloc (.cells #[.int .i64 0] 3)).alloc (.cells #[.slice A len cap] 22)).heap.size = w.heap.size + 2 := by simp
  rw [World.size_alloc] at bS
  obtain ⟨W0, hW0⟩ : ∃ W0, (w.alloc (.cells #[.int .i64 0] 3)).alloc (.cells #[.slice A len cap] 22) = W0 := ⟨_, rfl⟩
  rw [hW0] at bN bS hf0 hsz ⊢
  clear hW0
  refine wpIn_rangeFunc_ownH hro h1 (gf := 47) (lb := #[.pointer (some ⟨w.heap.size + 1, 0, none⟩)]) rfl h47 (enters_of Try.func47 (by kernel_rfl) rfl)
    (spans_stops F (n - 1) h47 hro (by omega) (w.heap.size + 1) w.heap.size (w.heap.size + 2) len cap A ws hok hlen.out W0 (by omega) (by omega) (by omega) bS (Hw.out.fr hf0) hA) kpS_t (kpS_b (by omega)) (Below.refl _ _) (fun _ => rfl)
    (fun pre W => (Blk W w.heap.size 3 #[.int .i64 (lastTo pre)] ∧ Fr [] w W) ∧ w.heap.size + 2 ≤ W.heap.size)
    (fun _ _ _ => False)
    (OwnFrom.and (OwnFrom.and (ownFrom_blk _ _ _ _) (ownFrom_fr (by omega))) (ownFrom_size _ _))
    (fun _ _ _ _ _ hs _ _ => hs)
    ⟨⟨bN, hf0⟩, by omega⟩
    (fun x a' W => ∃ Bx, w.heap.size + 2 ≤ Bx ∧ Blk W Bx 73 #[.int .i64 x.num, .int .i64 x.fr, .int .i64 x.to, .int .i64 x.K, .int .i64 x.I, .int .i64 x.T] ∧ a' = { tmps := #[.slice A len cap, undef, .int .i64 0, .pointer (some ⟨w.heap.size, 0, none⟩), .pointer (some ⟨Bx, 0, none⟩), .slice A len cap, .func (.func 47) #[] #[.pointer (some ⟨w.heap.size + 1, 0, none⟩)], .agg #[.int .i64 x.num, .int .i64 x.fr, .int .i64 x.to, .int .i64 x.K, .int .i64 x.I, .int .i64 x.T], undef, undef, undef], defers := [] })
    (fun x a' _ X Y row hs hg hr => by obtain ⟨Bx, e1, e2, e3⟩ := hs; exact ⟨Bx, e1, ownFrom_blk (β := Unit) _ Bx 73 (fun _ => _) () X Y row e2 hg hr, e3⟩)
    ?assign ?body ?done ?stop
  case assign =>
    rintro l pre x W K ⟨⟨bN1, hf1⟩, hs1⟩ hK
    unfold Sp.enc
    gi_wp2
    exact hK _ _ ((KeepsOthers.alloc _ _).from _) ((KpS.refl _ _ W).alloc (by omega) _) ⟨⟨bN1.alloc _, hf1.alloc _⟩, by simp; omega⟩ ⟨W.heap.size, by omega, Blk.new W 73 _, rfl⟩
  case body =>
    rintro l pre x a' W hl ⟨r, hr⟩ ⟨⟨bN1, hf1⟩, hs1⟩ ⟨Bx, hBx, bX, rfl⟩ hlt
    have e2 := bX.cell 2
    have e3 := bN1.cell 0
    have e4 := bN1.frozen 0
    simp at e2 e3
    gi_wp2
    exact ⟨(KeepsOthers.setCell _ _ _).from _, (KpS.refl _ _ W).setCell (p := ⟨w.heap.size, 0, none⟩) (by simp) (by simp) _, ⟨by rw [lastTo_snoc]; exact bN1.set_ 0 _, hf1.setCell (p := ⟨w.heap.size, 0, none⟩) (by simp) _⟩, by simpa [World.setCell] using hs1⟩
  case done =>
    rintro D zs W hD rfl ⟨⟨bN1, hf1⟩, hs1⟩ hK
    have e3 := bN1.cell 0
    simp at e3
    gi_wp2
    refine ⟨by simp, .inl ⟨_, _, rfl, run_takeDeferred hK, ?_⟩⟩
    refine ⟨_, results_tmp rfl _ _ _, ?_, hf1.putDef (by omega) hK⟩
    rw [show lastTo (spL ws hok) = tot ws ws.length from lastTo_spTo ws hok _ _]
    rfl
  case stop =>
    rintro D c pre W _ _ h _
    exact h.elim
end Go.Proofs.Ytnpdljmgjpngaaa

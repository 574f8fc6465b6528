/- Length, At: the program's. -/
import Derived.Test.YtnpdljmgjpngaaaW3
import Derived.Test.YtnpdljmgjpngaaaRd
import Derived.IntWalk
namespace Go.Proofs.Ytnpdljmgjpngaaa
open Go.RowKit Go.Shelf
attribute [local go_sem] Oper.semAt_some
set_option linter.unusedVariables false
set_option linter.unusedSimpArgs false

theorem chE_ok {l : List Win} (h : okL l = true) : chE l = 0 := by simp [chE, h]
theorem chE_no {l : List Win} (h : okL l = false) : chE l = 130 := by simp [chE, h]
theorem check_ok (A : Option Addr) (n cap : Nat) (l : List Win) (w : World) (h : WinsIn w (.slice A n cap) l) (hn : n ≤ 4611686018427387904) (hok : okL l = true) :
    Calls Try.prog 10 #[.slice A n cap] w fun e w' => e = .returned (.int .i64 0) ∧ Fr [] w w' := by
  have := check_any A n cap l w h hn
  rwa [chE_ok hok] at this
theorem check_no (A : Option Addr) (n cap : Nat) (l : List Win) (w : World) (h : WinsIn w (.slice A n cap) l) (hn : n ≤ 4611686018427387904) (hok : okL l = false) :
    Calls Try.prog 10 #[.slice A n cap] w fun e w' => e = .returned (.int .i64 130) ∧ Fr [] w w' := by
  have := check_any A n cap l w h hn
  rwa [chE_no hok] at this
theorem length_ok (A : Option Addr) (n cap : Nat) (l : List Win) (w : World) (h : WinsIn w (.slice A n cap) l) (hok : okL l = true) :
    Calls Try.prog 32 #[.slice A n cap] w fun e w' => e = .returned (.int .i64 (tot l l.length)) ∧ Fr [] w w' :=
  (callsIn_wide (n := 3)).1 (length_in Fence.wide 3 trivial trivial trivial rfl (by omega) n cap A l hok w h)

/-- What Length tells. -/
def lenT (l : List Win) : Int := if okL l then tot l l.length else 0
set_option maxHeartbeats 400000 in
theorem Length_any (A : Option Addr) (n cap : Nat) (l : List Win) (w : World) (h : WinsIn w (.slice A n cap) l) (hn : n ≤ 4611686018427387904) :
    Calls Try.prog 8 #[.slice A n cap] w fun e w' => e = .returned (.tuple #[.int .i64 (lenT l), .int .i64 (chE l)]) ∧ Fr [] w w' := by
  cases hok : okL l with
  | false =>
    have Hc := Lib.hid fun w h => check_no A n cap l w h hn hok
    have H := Lib.hid h
    have Hok := Lib.hid hok
    clear h hok
    go_enter Try.func8, Try.ntmps8
    go_wp2_with (go_at_call 10; go_must ((with_reducible refine (Hc.out _ H.out).mono ?_); rintro e w1 ⟨rfl, hf1⟩))
    go_ret2
    refine ⟨?_, hf1⟩
    rw [chE_no Hok.out, lenT, Hok.out]
    rfl
  | true =>
    have Hc := Lib.hid fun w h => check_ok A n cap l w h hn hok
    have Hl := Lib.hid fun w h => length_ok A n cap l w h hok
    have H := Lib.hid h
    have Hok := Lib.hid hok
    clear h hok
    go_enter Try.func8, Try.ntmps8
    go_wp2_with (first
      | (go_at_call 10; go_must ((with_reducible refine (Hc.out _ H.out).mono ?_); rintro e w1 ⟨rfl, hf1⟩))
      | (go_at_call 32; go_must ((with_reducible refine (Hl.out _ (H.out.fr hf1)).mono ?_); rintro e w2 ⟨rfl, hf2⟩)))
    go_ret2
    refine ⟨?_, hf1.trans hf2⟩
    rw [chE_ok Hok.out, lenT, Hok.out]
    rfl

theorem tick_yes (t : Int) (w : World) (h1 : 0 ≤ t) (h2 : t ≤ 1099511627776) : Calls Try.prog 38 #[.int .i64 t] w fun e w' => e = .returned (.bool true) ∧ w = w' := by
  go_enter Try.func38, Try.ntmps38
  go_wp2_with (go_at_call 34; go_must (refine (in_yes _ _ _ _ ?h1 ?h2).mono ?_; (case h1 => exact h1); (case h2 => exact h2); rintro e w' ⟨rfl, rfl⟩))
  go_ret
  exact ⟨rfl, rfl⟩
theorem tick_no (t : Int) (w : World) (h : t < 0 ∨ 1099511627776 < t) : Calls Try.prog 38 #[.int .i64 t] w fun e w' => e = .returned (.bool false) ∧ w = w' := by
  go_enter Try.func38, Try.ntmps38
  go_wp2_with (go_at_call 34; go_must (refine (in_no _ _ _ _ ?h1).mono ?_; (case h1 => exact h); rintro e w' ⟨rfl, rfl⟩))
  go_ret
  exact ⟨rfl, rfl⟩

/-- A place, as a value. -/
def plc (a b c : Int) : Value := .agg #[.int .i64 a, .int .i64 b, .int .i64 c]
set_option maxHeartbeats 400000 in
theorem at_no (A : Option Addr) (n cap : Nat) (l : List Win) (w : World) (t : Int) (h : WinsIn w (.slice A n cap) l) (hn : n ≤ 4611686018427387904) (hok : okL l = false) :
    Calls Try.prog 12 #[.slice A n cap, .int .i64 t] w fun e w' => e = .returned (.tuple #[plc 0 0 0, .int .i64 130]) ∧ Fr [] w w' := by
  have Hc := Lib.hid fun w h => check_no A n cap l w h hn hok
  have H := Lib.hid h
  clear h hok
  go_enter Try.func12, Try.ntmps12
  go_wp2_with (go_at_call 10; go_must ((with_reducible refine (Hc.out _ (H.out.fr (((Fr.refl _ _).alloc _).alloc _))).mono ?_); rintro e w1 ⟨rfl, hf1⟩; have hb1 := ((Blk.new (w.alloc (.cells #[.int .i64 t] 3)) 30 #[.int .i64 0, .int .i64 0, .int .i64 0]).fr hf1 (by simp)); have e0 := hb1.cell 0; have e1 := hb1.cell 1; have e2 := hb1.cell 2; have e3 := hb1.frozen; simp at e0 e1 e2; simp at e3))
  refine bodyPost_ret (v := .tuple #[.agg #[.int .i64 0, .int .i64 0, .int .i64 0], .int .i64 130]) (by simp [results, Try.results12, go_sem, e0, e1, e2]) rfl ⟨rfl, ?_⟩
  exact ((((((Fr.refl _ w).alloc _).alloc _).trans hf1).setCell (.inr (by simp)) _).setCell (.inr (by simp)) _).setCell (.inr (by simp)) _
set_option maxHeartbeats 400000 in
theorem at_arg (A : Option Addr) (n cap : Nat) (l : List Win) (w : World) (t : Int) (h : WinsIn w (.slice A n cap) l) (hn : n ≤ 4611686018427387904) (hok : okL l = true) (ht : t < 0 ∨ 1099511627776 < t) :
    Calls Try.prog 12 #[.slice A n cap, .int .i64 t] w fun e w' => e = .returned (.tuple #[plc 0 0 0, .int .i64 1]) ∧ Fr [] w w' := by
  have Hc := Lib.hid fun w h => check_ok A n cap l w h hn hok
  have H := Lib.hid h
  have Ht := Lib.hid ht
  clear h hok ht
  go_enter Try.func12, Try.ntmps12
  go_wp2_with (first
    | (go_at_call 10; go_must ((with_reducible refine (Hc.out _ (H.out.fr (((Fr.refl _ _).alloc _).alloc _))).mono ?_); rintro e w1 ⟨rfl, hf1⟩; have hbt := ((Blk.new w 3 #[.int .i64 t]).alloc (.cells #[.int .i64 0, .int .i64 0, .int .i64 0] 30)).fr hf1 (by simp); have et := hbt.cell 0; simp at et; have hb1 := ((Blk.new (w.alloc (.cells #[.int .i64 t] 3)) 30 #[.int .i64 0, .int .i64 0, .int .i64 0]).fr hf1 (by simp)); have e0 := hb1.cell 0; have e1 := hb1.cell 1; have e2 := hb1.cell 2; have e3 := hb1.frozen; simp at e0 e1 e2; simp at e3))
    | (go_at_call 38; go_must ((with_reducible refine (tick_no _ _ Ht.out).mono ?_); rintro e w2 ⟨rfl, rfl⟩)))
  refine bodyPost_ret (v := .tuple #[.agg #[.int .i64 0, .int .i64 0, .int .i64 0], .int .i64 1]) (by simp [results, Try.results12, go_sem, e0, e1, e2]) rfl ⟨rfl, ?_⟩
  exact ((((((Fr.refl _ w).alloc _).alloc _).trans hf1).setCell (.inr (by simp)) _).setCell (.inr (by simp)) _).setCell (.inr (by simp)) _

theorem spans_any (A : Option Addr) (len cap : Nat) (w : World) :
    Calls Try.prog 39 #[.slice A len cap] w fun e w' => e = .returned (.func (.func 47) #[] #[.pointer (some ⟨w.heap.size, 0, none⟩)]) ∧ w.alloc (.cells #[.slice A len cap] 22) = w' :=
  ((callsIn_wide (n := 3)).1 (spans_in Fence.wide 3 trivial rfl A len cap w)).mono fun _ _ ⟨h1, h2⟩ => ⟨h1, h2.symm⟩
theorem spTo_of_prefix {ws : List Win} {hok : okL ws = true} {pre : List Sp} (h : pre <+: spL ws hok) : ∃ k hk, pre = spTo ws hok k hk := by
  have hl : pre.length ≤ ws.length := by
    have := h.length_le
    unfold spL at this
    rwa [spTo_len] at this
  refine ⟨pre.length, hl, ?_⟩
  have h2 := spTo_all ws hok pre.length hl
  exact (List.prefix_of_prefix_length_le h h2 (by rw [spTo_len]; exact Nat.le_refl _)).eq_of_length (by rw [spTo_len])
/-- The last span of those that have come, and where it lies. -/
theorem spTo_snoc_inv {ws : List Win} {hok : okL ws = true} {pre : List Sp} {x : Sp} (h : pre ++ [x] <+: spL ws hok) : ∃ k, ∃ hk : k < ws.length, pre = spTo ws hok k (by omega) ∧ x = spAt ws hok k hk := by
  obtain ⟨k, hk, he⟩ := spTo_of_prefix h
  cases k with
  | zero => simp [spTo] at he
  | succ k =>
    rw [spTo] at he
    have := List.append_inj' he rfl
    simp at this
    exact ⟨k, hk, this.1, this.2⟩

/-- Window k has the tick of place r. -/
def InWin (l : List Win) (k : Nat) (r : Int) : Prop := k < l.length ∧ tot l k ≤ r ∧ r < tot l (k + 1)
/-- What At tells of a tick. -/
def AtPost (w : World) (l : List Win) (t L : Int) (e : Ending) (w' : World) : Prop :=
  ∃ k, InWin l k (t % L) ∧ e = .returned (.tuple #[plc (t / L) k (t % L - tot l k), .int .i64 0]) ∧ Fr [] w w'

/-- The world in the region that stores a place's window and offset: b7, b9: which have been stored. -/
structure AtW (W : World) (n₁ n₀ Bx pb : Nat) (q u : Int) (x : Sp) (b7 b9 : Bool) (w' : World) : Prop where
  bx : Blk w' Bx 73 #[.int .i64 x.num, .int .i64 x.fr, .int .i64 x.to, .int .i64 x.K, .int .i64 x.I, .int .i64 x.T]
  bp : Blk w' pb 30 #[.int .i64 q, bif b7 then .int .i64 x.num else .int .i64 0, bif b9 then .int .i64 u else .int .i64 0]
  fr : Fr [pb] W w'
  kf : KeepsFrom n₁ W w'
  kp : KpS n₀ n₁ W w'
theorem AtW.set7 {W : World} {n₁ n₀ Bx pb : Nat} {q u : Int} {x : Sp} {b7 b9 : Bool} {w' : World} (h : AtW W n₁ n₀ Bx pb q u x b7 b9 w') (h1 : Bx ≠ pb) (h2 : n₀ ≤ pb) (h3 : pb < n₁) : AtW W n₁ n₀ Bx pb q u x true b9 (w'.setCell ⟨pb, 1, none⟩ (.int .i64 x.num)) :=
  ⟨h.bx.far h1 _, h.bp.set_ 1 _, h.fr.setCell (.inl (by simp)) _, h.kf.trans ((KeepsOthers.setCell _ _ _).from _), h.kp.setCell h2 h3 _⟩
theorem AtW.set9 {W : World} {n₁ n₀ Bx pb : Nat} {q u : Int} {x : Sp} {b7 b9 : Bool} {w' : World} (h : AtW W n₁ n₀ Bx pb q u x b7 b9 w') (h1 : Bx ≠ pb) (h2 : n₀ ≤ pb) (h3 : pb < n₁) : AtW W n₁ n₀ Bx pb q u x b7 true (w'.setCell ⟨pb, 2, none⟩ (.int .i64 u)) :=
  ⟨h.bx.far h1 _, h.bp.set_ 2 _, h.fr.setCell (.inl (by simp)) _, h.kf.trans ((KeepsOthers.setCell _ _ _).from _), h.kp.setCell h2 h3 _⟩

/-- The loop has been left at window x. -/
def AtIx (w : World) (s2 : Nat) (q r : Int) (c : Code) (pre : List Sp) (W : World) : Prop :=
  ∃ pre' x, ((((c = .exit 0 ∧ pre = pre' ++ [x] ∧ lastTo pre' ≤ r ∧ r < x.to) ∧ Blk W (s2 + 1) 30 #[.int .i64 q, .int .i64 x.num, .int .i64 (r - x.fr)]) ∧ Blk W (w.heap.size + 1) 30 #[.int .i64 0, .int .i64 0, .int .i64 0]) ∧ Fr [] w W) ∧ s2 + 3 ≤ W.heap.size
theorem atIx_own {w : World} {s2 B : Nat} {q r : Int} {c : Code} (hB : w.heap.size ≤ B) : OwnFrom B (AtIx w s2 q r c) := by
  rintro pre W W' row ⟨pre', x, ⟨⟨⟨h1, h2⟩, h3⟩, h4⟩, h5⟩ hg hr
  exact ⟨pre', x, ⟨⟨⟨h1, ownFrom_blk (β := Unit) B _ _ (fun _ => _) () W W' row h2 hg hr⟩, ownFrom_blk (β := Unit) B _ _ (fun _ => _) () W W' row h3 hg hr⟩, ownFrom_fr (β := Unit) hB () W W' row h4 hg hr⟩, Nat.le_trans h5 hg.size⟩

set_option maxRecDepth 100000 in
set_option maxHeartbeats 4000000 in
theorem at_ok (A : Option Addr) (n cap : Nat) (l : List Win) (w : World) (t : Int) (h : WinsIn w (.slice A n cap) l) (hn : n ≤ 4611686018427387904) (hok : okL l = true) (h1 : 0 ≤ t) (h2 : t ≤ 1099511627776) :
    Calls Try.prog 12 #[.slice A n cap, .int .i64 t] w (AtPost w l t (tot l l.length)) := by
  have hL := tot_bd hok l.length (Nat.le_refl _)
  have hl := okL_len hok
  have Hc := Lib.hid fun w h => check_ok A n cap l w h hn hok
  have Hl := Lib.hid fun w h => length_ok A n cap l w h hok
  have H := Lib.hid h
  have Hlen := Lib.hid h.len
  have hA := h.addr hl.1
  clear h
  have hL0 : 0 < tot l l.length := by omega
  have hL1 : tot l l.length ≤ 16320 := by omega
  have HL : ∃ L, tot l l.length = L := ⟨_, rfl⟩
  obtain ⟨L, hLL⟩ := HL
  rw [hLL] at hL0 hL1 Hl ⊢
  have HLL := Lib.hid hLL
  clear hLL hL
  have r0 := Int.emod_nonneg t (by omega : L ≠ 0)
  have r1 := Int.emod_lt_of_pos t hL0
  refine (callsIn_wide (n := 3)).1 ?_
  refine callsIn_of_wp_marks Try.func12 rfl trivial (wpIn_wide.2 ?_)
  simp only [Try.ntmps12, List.size_toArray, List.length_cons, List.length_nil, Nat.reduceAdd, Nat.reduceSub, Array.replicate_succ, Array.replicate_zero, List.push_toArray, List.append_toArray, List.nil_append, List.cons_append]
  go_wp2_with (first
    | (go_at_call 10; go_must ((with_reducible refine (Hc.out _ (H.out.fr (((Fr.refl _ _).alloc _).alloc _))).mono ?_); rintro e w1 ⟨rfl, hf1⟩; have hbt := ((Blk.new w 3 #[.int .i64 t]).alloc (.cells #[.int .i64 0, .int .i64 0, .int .i64 0] 30)).fr hf1 (by simp); have et := hbt.cell 0; simp at et))
    | (go_at_call 38; go_must ((with_reducible refine (tick_yes _ _ h1 h2).mono ?_); rintro e w2 ⟨rfl, rfl⟩))
    | (go_at_call 32; go_must ((with_reducible refine (Hl.out _ (H.out.fr ((((Fr.refl _ _).alloc _).alloc _).trans hf1))).mono ?_); rintro e w2 ⟨rfl, hf2⟩; have hbt2 := hbt.fr hf2 (by simp); have et2 := hbt2.cell 0; simp at et2; have hz1 := hf1.size; have hz2 := hf2.size; have hz3 : w.heap.size < w2.heap.size := by simp at hz1; omega))
    | (go_at_call 39; go_must ((with_reducible refine (spans_any _ _ _ _).mono ?_); rintro e w3 ⟨rfl, rfl⟩))
    | fail)
  have bT0 := hbt2.alloc (.cells #[.int .i64 L] 3)
  have bP := Blk.new (w2.alloc (.cells #[.int .i64 L] 3)) 30 #[.int .i64 (t / L), .int .i64 0, .int .i64 0]
  have bL := (Blk.new w2 3 #[.int .i64 L]).alloc (.cells #[.int .i64 (t / L), .int .i64 0, .int .i64 0] 30)
  have bS := (Blk.new ((w2.alloc (.cells #[.int .i64 L] 3)).alloc (.cells #[.int .i64 (t / L), .int .i64 0, .int .i64 0] 30)) 22 #[.slice A n cap]).cell 0
  have bR := ((Blk.new (w.alloc (.cells #[.int .i64 t] 3)) 30 #[.int .i64 0, .int .i64 0, .int .i64 0]).fr hf1 (by simp)).fr hf2 (by simp)
  have hf0 : Fr [] w w2 := (((Fr.refl _ w).alloc _).alloc _).trans (hf1.trans hf2)
  rw [World.size_alloc] at bP bR
  simp only [World.size_alloc] at bS
  replace bT0 := (bT0.alloc (.cells #[.int .i64 (t / L), .int .i64 0, .int .i64 0] 30)).alloc (.cells #[.slice A n cap] 22)
  replace bP := bP.alloc (.cells #[.slice A n cap] 22)
  replace bL := bL.alloc (.cells #[.slice A n cap] 22)
  replace bR := ((bR.alloc (.cells #[.int .i64 L] 3)).alloc (.cells #[.int .i64 (t / L), .int .i64 0, .int .i64 0] 30)).alloc (.cells #[.slice A n cap] 22)
  have hf00 := ((hf0.alloc (.cells #[.int .i64 L] 3)).alloc (.cells #[.int .i64 (t / L), .int .i64 0, .int .i64 0] 30)).alloc (.cells #[.slice A n cap] 22)
  have hsz : (((w2.alloc (.cells #[.int .i64 L] 3)).alloc (.cells #[.int .i64 (t / L), .int .i64 0, .int .i64 0] 30)).alloc (.cells #[.slice A n cap] 22)).heap.size = w2.heap.size + 3 := by simp
  obtain ⟨W0, hW0⟩ : ∃ W0, ((w2.alloc (.cells #[.int .i64 L] 3)).alloc (.cells #[.int .i64 (t / L), .int .i64 0, .int .i64 0] 30)).alloc (.cells #[.slice A n cap] 22) = W0 := ⟨_, rfl⟩
  rw [hW0] at bT0 bP bL bR bS hf00 hsz ⊢
  clear hW0 hbt et hbt2 et2
  have hzw : w.heap.size + 1 < w2.heap.size := by simp at hz1; omega
  generalize hs2 : w2.heap.size = s2 at *
  refine (wpIn_wide (n := 3)).1 ?_
  refine wpIn_rangeFunc_ownH rfl (by omega) (gf := 47) (lb := #[.pointer (some ⟨s2 + 1 + 1, 0, none⟩)]) rfl trivial (enters_of Try.func47 (by kernel_rfl) rfl)
    (spans_stops Fence.wide (3 - 1) trivial rfl (by omega) (s2 + 1 + 1) w.heap.size (s2 + 3) n cap A l hok Hlen.out W0 (by omega) (by omega) (by omega) bS (H.out.fr hf00) hA) kpS_t (kpS_b (by omega)) (Below.refl _ _) (fun _ => rfl)
    (fun pre W => ((((((lastTo pre ≤ t % L) ∧ Blk W w.heap.size 3 #[.int .i64 t]) ∧ Blk W s2 3 #[.int .i64 L]) ∧ Blk W (s2 + 1) 30 #[.int .i64 (t / L), .int .i64 0, .int .i64 0]) ∧ Blk W (w.heap.size + 1) 30 #[.int .i64 0, .int .i64 0, .int .i64 0]) ∧ Fr [] w W) ∧ s2 + 3 ≤ W.heap.size)
    (AtIx w s2 (t / L) (t % L))
    (OwnFrom.and (OwnFrom.and (OwnFrom.and (OwnFrom.and (OwnFrom.and (OwnFrom.and (ownFrom_pure _ _) (ownFrom_blk _ _ _ _)) (ownFrom_blk _ _ _ _)) (ownFrom_blk _ _ _ _)) (ownFrom_blk _ _ _ _)) (ownFrom_fr (by omega))) (ownFrom_size _ _))
    (fun c => atIx_own (by omega))
    ⟨⟨⟨⟨⟨⟨r0, bT0⟩, bL⟩, bP⟩, bR⟩, hf00⟩, by omega⟩
    (fun x a' W => ∃ Bx, s2 + 3 ≤ Bx ∧ Blk W Bx 73 #[.int .i64 x.num, .int .i64 x.fr, .int .i64 x.to, .int .i64 x.K, .int .i64 x.I, .int .i64 x.T] ∧ a' = { tmps := #[.slice A n cap, .int .i64 t, undef, .pointer (some ⟨w.heap.size, 0, none⟩), .pointer (some ⟨w.heap.size + 1, 0, none⟩), .int .i64 0, .int .i64 0, .pointer (some ⟨s2, 0, none⟩), .pointer (some ⟨s2 + 1, 0, none⟩), .pointer (some ⟨Bx, 0, none⟩), undef, .slice A n cap, .int .i64 0, .int .i64 0, .bool false, undef, undef, .int .i64 t, .bool true, .bool false, undef, .slice A n cap, .int .i64 L, .int .i64 t, .int .i64 L, .int .i64 (t / L), .agg #[.int .i64 (t / L), .int .i64 0, .int .i64 0], .slice A n cap, .func (.func 47) #[] #[.pointer (some ⟨s2 + 1 + 1, 0, none⟩)], .agg #[.int .i64 x.num, .int .i64 x.fr, .int .i64 x.to, .int .i64 x.K, .int .i64 x.I, .int .i64 x.T], undef, undef, undef, undef, undef, undef, undef, undef, undef, undef, undef, undef, undef, undef, undef, undef], defers := [] })
    (fun x a' _ X Y row hs hg hr => by obtain ⟨Bx, e1, e2, e3⟩ := hs; exact ⟨Bx, e1, ownFrom_blk (β := Unit) _ Bx 73 (fun _ => _) () X Y row e2 hg hr, e3⟩)
    ?assign ?body ?done ?stop
  case assign =>
    rintro l' pre x W K ⟨⟨⟨⟨⟨⟨hr0, bT⟩, bL⟩, bP⟩, bR⟩, hfr⟩, hs1⟩ hK
    unfold Sp.enc
    gi_wp2
    exact hK _ _ ((KeepsOthers.alloc _ _).from _) ((KpS.refl _ _ W).alloc (by omega) _) ⟨⟨⟨⟨⟨⟨hr0, bT.alloc _⟩, bL.alloc _⟩, bP.alloc _⟩, bR.alloc _⟩, hfr.alloc _⟩, by simp; omega⟩ ⟨W.heap.size, by omega, Blk.new W 73 _, rfl⟩
  case body =>
    rintro l' pre x a' W hl' ⟨r, hr⟩ ⟨⟨⟨⟨⟨⟨hr0, bT⟩, bL⟩, bP⟩, bR⟩, hfr⟩, hs1⟩ ⟨Bx, hBx, bX, rfl⟩ hlt
    have et := bT.cell 0
    have eL := bL.cell 0
    have e0 := bX.cell 0
    have e1 := bX.cell 1
    have e2 := bX.cell 2
    have p1 := bP.cell 1
    have p2 := bP.cell 2
    have pf := bP.frozen
    simp at et eL e0 e1 e2 p1 p2
    obtain ⟨xh0, xh1, xh2, xh3, xh4, xh5, xh6, xh7⟩ := x.h
    have hm : Try.prog.follows .mixedOrders = true := by kernel_rfl
    by_cases hc : t % L < x.to
    · gi_wp2
      have hwr : IntKind.i64.wrap (t % L - x.fr) = t % L - x.fr := IntWalk.i64_in _ (by omega)
      refine wpIn_region_inv hm (by kernel_rfl) (fun L' a w' => a = { tmps := #[.slice A n cap, .int .i64 t, undef, .pointer (some ⟨w.heap.size, 0, none⟩), .pointer (some ⟨w.heap.size + 1, 0, none⟩), .int .i64 0, .int .i64 0, .pointer (some ⟨s2, 0, none⟩), .pointer (some ⟨s2 + 1, 0, none⟩), .pointer (some ⟨Bx, 0, none⟩), .int .i64 (t % L), .slice A n cap, .int .i64 0, .int .i64 0, .bool false, undef, undef, .int .i64 t, .bool true, .bool false, undef, .slice A n cap, .int .i64 L, .int .i64 t, .int .i64 L, .int .i64 (t / L), .agg #[.int .i64 (t / L), .int .i64 0, .int .i64 0], .slice A n cap, .func (.func 47) #[] #[.pointer (some ⟨s2 + 1 + 1, 0, none⟩)], .agg #[.int .i64 x.num, .int .i64 x.fr, .int .i64 x.to, .int .i64 x.K, .int .i64 x.I, .int .i64 x.T], .int .i64 t, .int .i64 L, .int .i64 (t % L), .int .i64 (t % L), .pointer (some ⟨Bx, 2, none⟩), .int .i64 x.to, .bool true,
            bif L'.getD 0 false then .pointer (some ⟨Bx, 0, none⟩) else undef, bif L'.getD 1 false then .int .i64 x.num else undef, bif L'.getD 2 false then .int .i64 (t % L) else undef, bif L'.getD 3 false then .pointer (some ⟨Bx, 1, none⟩) else undef, bif L'.getD 4 false then .int .i64 x.fr else undef, bif L'.getD 5 false then .int .i64 (t % L - x.fr) else undef, bif L'.getD 6 false then .pointer (some ⟨s2 + 1, 1, none⟩) else undef, bif L'.getD 8 false then .pointer (some ⟨s2 + 1, 2, none⟩) else undef, undef], defers := [] } ∧ AtW W (s2 + 3) w.heap.size Bx (s2 + 1) (t / L) (t % L - x.fr) x (L'.getD 7 false) (L'.getD 9 false) w') ⟨rfl, bX.drew, bP.drew, (Fr.refl _ _).drew, (KeepsOthers.drew _).from _, (KpS.refl _ _ _).drew⟩ ?_ ?_
      · rintro ⟨L'⟩ _ w' i o hs ho hf hp ⟨rfl, hw⟩
        match L', hs with
        | [b0, b1, b2, b3, b4, b5, b6, b7, b8, b9], _ =>
        have e0 := hw.bx.cell 0
        have e1 := hw.bx.cell 1
        have pf := hw.bp.frozen
        have p1 := hw.bp.cell 1
        have p2 := hw.bp.cell 2
        simp at e0 e1 p1 p2
        match i, ho with
        | 0, ho => injection ho with ho; subst ho; simp [Region.binds] at hf hp; refine wpOpIn_step rfl (fun K hK => ?_); go_simp; refine hK _ _ ⟨by simp [hf, hp], ?_⟩; exact hw
        | 1, ho => injection ho with ho; subst ho; simp [Region.binds] at hf hp; refine wpOpIn_step rfl (fun K hK => ?_); go_simp; refine hK _ _ ⟨by simp [hf, hp], ?_⟩; exact hw
        | 2, ho => injection ho with ho; subst ho; simp [Region.binds] at hf hp; refine wpOpIn_step rfl (fun K hK => ?_); go_simp; refine hK _ _ ⟨by simp [hf, hp], ?_⟩; exact hw
        | 3, ho => injection ho with ho; subst ho; simp [Region.binds] at hf hp; refine wpOpIn_step rfl (fun K hK => ?_); go_simp; refine hK _ _ ⟨by simp [hf, hp], ?_⟩; exact hw
        | 4, ho => injection ho with ho; subst ho; simp [Region.binds] at hf hp; refine wpOpIn_step rfl (fun K hK => ?_); go_simp; refine hK _ _ ⟨by simp [hf, hp], ?_⟩; exact hw
        | 5, ho => injection ho with ho; subst ho; simp [Region.binds] at hf hp; refine wpOpIn_step rfl (fun K hK => ?_); go_simp; refine hK _ _ ⟨by simp [hf, hp], ?_⟩; exact hw
        | 6, ho => injection ho with ho; subst ho; simp [Region.binds] at hf hp; refine wpOpIn_step rfl (fun K hK => ?_); go_simp; refine hK _ _ ⟨by simp [hf, hp], ?_⟩; exact hw
        | 8, ho => injection ho with ho; subst ho; simp [Region.binds] at hf hp; refine wpOpIn_step rfl (fun K hK => ?_); go_simp; refine hK _ _ ⟨by simp [hf, hp], ?_⟩; exact hw
        | 7, ho => injection ho with ho; subst ho; simp [Region.binds] at hf hp; refine wpOpIn_step rfl (fun K hK => ?_); go_simp; refine hK _ _ ⟨by simp [hf, hp], ?_⟩; exact hw.set7 (by omega) (by omega) (by omega)
        | 9, ho => injection ho with ho; subst ho; simp [Region.binds] at hf hp; refine wpOpIn_step rfl (fun K hK => ?_); go_simp; refine hK _ _ ⟨by simp [hf, hp], ?_⟩; exact hw.set9 (by omega) (by omega) (by omega)
        | i + 10, ho => simp at ho
      · rintro _ w' ⟨rfl, hw⟩
        gi_wp2
        exact ⟨by rw [hsz]; exact hw.kf, pre, x, ⟨⟨⟨⟨rfl, rfl, hr0, hc⟩, hw.bp⟩, bR.fr hw.fr (by simp; omega)⟩, hfr.step hw.fr (by simp; omega)⟩, by have := hw.fr.size; omega⟩
    · gi_wp2
      exact ⟨KeepsFrom.refl _ _, KpS.refl _ _ _, ⟨⟨⟨⟨⟨by rw [lastTo_snoc]; omega, bT⟩, bL⟩, bP⟩, bR⟩, hfr⟩, hs1⟩
  case done =>
    rintro D zs W hD rfl ⟨⟨⟨⟨⟨⟨hr0, bT⟩, bL⟩, bP⟩, bR⟩, hfr⟩, hs1⟩ hK
    exfalso
    rw [show lastTo (spL l hok) = tot l l.length from lastTo_spTo l hok _ _, HLL.out] at hr0
    omega
  case stop =>
    rintro D c pre W hD hpre ⟨pre', x, ⟨⟨⟨⟨rfl, rfl, hr0, hr1⟩, bP⟩, bR⟩, hfr⟩, hs1⟩ hK
    obtain ⟨k, hk, rfl, rfl⟩ := spTo_snoc_inv hpre
    rw [lastTo_spTo] at hr0
    have hk1 : t % L < tot l (k + 1) := by rw [tot_succ (List.getElem?_eq_getElem hk)]; exact hr1
    have Hin : Hid (InWin l k (t % L)) := Lib.hid ⟨hk, hr0, hk1⟩
    have p0 := bP.cell 0
    have p1 := bP.cell 1
    have p2 := bP.cell 2
    have rf := bR.frozen
    have q0 := bR.cell 0
    have q1 := bR.cell 1
    have q2 := bR.cell 2
    have en : (spAt l hok k hk).num = (k : Int) := rfl
    have ef : (spAt l hok k hk).fr = tot l k := rfl
    rw [en] at p1
    rw [ef] at p2
    simp at p0 p1 p2 q0 q1 q2
    clear en ef
    refine (wpIn_wide (n := 3)).2 ?_
    go_wp2
    have bR3 := ((bR.set_ 0 (.int .i64 (t / L))).set_ 1 (.int .i64 k)).set_ 2 (.int .i64 (t % L - tot l k))
    have hf3 : Fr [] w (((W.setCell ⟨w.heap.size + 1, 0, none⟩ (.int .i64 (t / L))).setCell ⟨w.heap.size + 1, 1, none⟩ (.int .i64 k)).setCell ⟨w.heap.size + 1, 2, none⟩ (.int .i64 (t % L - tot l k))) := ((hfr.setCell (.inr (by simp)) _).setCell (.inr (by simp)) _).setCell (.inr (by simp)) _
    have hK3 := (((KeepsOthers.setCell W ⟨w.heap.size + 1, 0, none⟩ (.int .i64 (t / L))).trans (KeepsOthers.setCell _ ⟨w.heap.size + 1, 1, none⟩ (.int .i64 k))).trans (KeepsOthers.setCell _ ⟨w.heap.size + 1, 2, none⟩ (.int .i64 (t % L - tot l k)))).same D _ hK rfl
    generalize ((W.setCell ⟨w.heap.size + 1, 0, none⟩ (.int .i64 (t / L))).setCell ⟨w.heap.size + 1, 1, none⟩ (.int .i64 k)).setCell ⟨w.heap.size + 1, 2, none⟩ (.int .i64 (t % L - tot l k)) = W3 at *
    refine ⟨by simp, .inl ⟨_, _, rfl, run_takeDeferred hK3, ?_⟩⟩
    have bR4 := ownFrom_blk (β := Unit) D _ 30 (fun _ => _) () W3 (W3.putObj D (.deferred none)) (some D) bR3 (grownBy_putObj' W3 D _) (fun r e => by cases e; exact ⟨Nat.le_refl _, _, hK3, rfl⟩)
    have q0 := bR4.cell 0
    have q1 := bR4.cell 1
    have q2 := bR4.cell 2
    simp at q0 q1 q2
    refine ⟨.tuple #[plc (t / L) k (t % L - tot l k), .int .i64 0], by simp [results, Try.f12, go_sem, q0, q1, q2, plc], k, Hin.out, rfl, hf3.putDef (by omega) hK3⟩
end Go.Proofs.Ytnpdljmgjpngaaa

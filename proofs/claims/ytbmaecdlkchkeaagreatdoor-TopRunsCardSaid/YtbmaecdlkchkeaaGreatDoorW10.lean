/- The program's Read. The program's Read, of any arguments; Write, refused. -/
import Derived.Test.YtbmaecdlkchkeaaGreatDoorW8
import Derived.Test.YtbmaecdlkchkeaaGreatDoorRng
import Derived.Test.YtbmaecdlkchkeaaGreatDoorW6
namespace Go.Proofs.YtbmaecdlkchkeaaGreatDoor
open Go.RowKit Go.Shelf
attribute [local go_sem] Oper.semAt_some
set_option linter.unusedVariables false
set_option maxRecDepth 100000
set_option linter.unusedSimpArgs false
theorem chT_ok {n : Nat} {t : List Pg} (h : okT n t = true) : chT n t = 0 := by simp [chT, h]
theorem chT_no {n : Nat} {t : List Pg} (h : okT n t = false) : chT n t = 84 := by simp [chT, h]
theorem Check_no (b p F n m cap : Nat) (A : Option Addr) (t : List Pg) (w : World) (ht : Tb w b (.slice A m cap) t) (h : Hd w p F n) (hT : okT n t = false) :
    Calls Tryz.prog 77 #[ptr p, .slice A m cap] w fun e w' => e = .returned (.int .i64 84) ∧ Fr [] w w' := by
  have := MCheck_any b p F n m cap A t w ht h
  rwa [chT_no hT] at this
theorem Check_ok (b p F n m cap : Nat) (A : Option Addr) (t : List Pg) (w : World) (ht : Tb w b (.slice A m cap) t) (h : Hd w p F n) (hT : okT n t = true) :
    Calls Tryz.prog 77 #[ptr p, .slice A m cap] w fun e w' => e = .returned (.int .i64 0) ∧ Fr [] w w' := by
  have := MCheck_any b p F n m cap A t w ht h
  rwa [chT_ok hT] at this
set_option maxHeartbeats 400000 in
theorem Read_no (b p F m cap : Nat) (st : St) (A : Option Addr) (t : List Pg) (a n r : Int) (w : World) (ht : Tb w b (.slice A m cap) t) (h : MemAt w p F st) (hT : okT st.n t = false) :
    Calls Tryz.prog 47 #[ptr p, .slice A m cap, .int .i64 a, .int .i64 n, .int .i64 r] w fun e w' => e = .returned (.tuple #[.string ⟨#[]⟩, .int .i64 84]) ∧ Fr [] w w' := by
  have Hc := Lib.hid fun w ht h => Check_no b p F st.n m cap A t w ht h hT
  have H := Lib.hid ht
  have HM := Lib.hid h
  clear h ht hT
  go_enter Tryz.func47, Tryz.ntmps47
  go_wp2_with (go_at_call 77; go_must ((with_reducible refine (Hc.out _ (H.out.fr (((Fr.refl [] _).alloc _).alloc _) (by simp)) (HM.out.hd.fr (((Fr.refl [] _).alloc _).alloc _) (by simp))).mono ?_); rintro e w1 ⟨rfl, hf1⟩; have hb1 := ((Blk.new w 9 #[.string ⟨#[]⟩]).alloc (.cells #[.int .i64 0] 22)).fr hf1 (by simp); have hb2 := (Blk.new (w.alloc (.cells #[.string ⟨#[]⟩] 9)) 22 #[.int .i64 0]).fr hf1 (by simp); have e0 := hb1.cell 0; have e1 := hb1.frozen; have e2 := hb2.cell 0; have e3 := hb2.frozen; simp at e0 e2; simp at e1 e3))
  refine bodyPost_ret (v := .tuple #[.string ⟨#[]⟩, .int .i64 84]) (by simp [results, Tryz.results47, go_sem, e0, e2]) rfl ⟨rfl, ?_⟩
  exact (((((Fr.refl _ w).alloc _).alloc _).trans hf1).setCell (.inr (by simp)) _).setCell (.inr (by simp)) _
set_option maxHeartbeats 1000000 in
theorem Read_size (b p F m cap : Nat) (st : St) (A : Option Addr) (t : List Pg) (a n r : Int) (w : World) (ht : Tb w b (.slice A m cap) t) (h : MemAt w p F st) (hT : okT st.n t = true) (hs : n < 0 ∨ 4096 < n ∨ (r ≠ 1 ∧ r ≠ 4)) :
    Calls Tryz.prog 47 #[ptr p, .slice A m cap, .int .i64 a, .int .i64 n, .int .i64 r] w fun e w' => e = .returned (.tuple #[.string ⟨#[]⟩, .int .i64 80]) ∧ Fr [] w w' := by
  have Hc := Lib.hid fun w ht h => Check_ok b p F st.n m cap A t w ht h hT
  have H := Lib.hid ht
  have HM := Lib.hid h
  clear h ht hT
  by_cases h1 : n < 0
  · clear hs
    go_enter Tryz.func47, Tryz.ntmps47
    go_wp2_with (go_at_call 77; go_must ((with_reducible refine (Hc.out _ (H.out.fr (((Fr.refl [] _).alloc _).alloc _) (by simp)) (HM.out.hd.fr (((Fr.refl [] _).alloc _).alloc _) (by simp))).mono ?_); rintro e w1 ⟨rfl, hf1⟩; have hb1 := ((Blk.new w 9 #[.string ⟨#[]⟩]).alloc (.cells #[.int .i64 0] 22)).fr hf1 (by simp); have hb2 := (Blk.new (w.alloc (.cells #[.string ⟨#[]⟩] 9)) 22 #[.int .i64 0]).fr hf1 (by simp); have e0 := hb1.cell 0; have e1 := hb1.frozen; have e2 := hb2.cell 0; have e3 := hb2.frozen; simp at e0 e2; simp at e1 e3))
    refine bodyPost_ret (v := .tuple #[.string ⟨#[]⟩, .int .i64 80]) (by simp [results, Tryz.results47, go_sem, e0, e2]) rfl ⟨rfl, ?_⟩
    exact (((((Fr.refl _ w).alloc _).alloc _).trans hf1).setCell (.inr (by simp)) _).setCell (.inr (by simp)) _
  · by_cases h2 : 4096 < n
    · clear hs
      go_enter Tryz.func47, Tryz.ntmps47
      go_wp2_with (go_at_call 77; go_must ((with_reducible refine (Hc.out _ (H.out.fr (((Fr.refl [] _).alloc _).alloc _) (by simp)) (HM.out.hd.fr (((Fr.refl [] _).alloc _).alloc _) (by simp))).mono ?_); rintro e w1 ⟨rfl, hf1⟩; have hb1 := ((Blk.new w 9 #[.string ⟨#[]⟩]).alloc (.cells #[.int .i64 0] 22)).fr hf1 (by simp); have hb2 := (Blk.new (w.alloc (.cells #[.string ⟨#[]⟩] 9)) 22 #[.int .i64 0]).fr hf1 (by simp); have e0 := hb1.cell 0; have e1 := hb1.frozen; have e2 := hb2.cell 0; have e3 := hb2.frozen; simp at e0 e2; simp at e1 e3))
      refine bodyPost_ret (v := .tuple #[.string ⟨#[]⟩, .int .i64 80]) (by simp [results, Tryz.results47, go_sem, e0, e2]) rfl ⟨rfl, ?_⟩
      exact (((((Fr.refl _ w).alloc _).alloc _).trans hf1).setCell (.inr (by simp)) _).setCell (.inr (by simp)) _
    · obtain ⟨h3, h4⟩ : r ≠ 1 ∧ r ≠ 4 := by omega
      have d3 : (r != 1) = true := by rw [bne_iff_ne]; exact h3
      have d4 : (r != 4) = true := by rw [bne_iff_ne]; exact h4
      clear hs h3 h4
      go_enter Tryz.func47, Tryz.ntmps47
      go_wp2_with (go_at_call 77; go_must ((with_reducible refine (Hc.out _ (H.out.fr (((Fr.refl [] _).alloc _).alloc _) (by simp)) (HM.out.hd.fr (((Fr.refl [] _).alloc _).alloc _) (by simp))).mono ?_); rintro e w1 ⟨rfl, hf1⟩; have hb1 := ((Blk.new w 9 #[.string ⟨#[]⟩]).alloc (.cells #[.int .i64 0] 22)).fr hf1 (by simp); have hb2 := (Blk.new (w.alloc (.cells #[.string ⟨#[]⟩] 9)) 22 #[.int .i64 0]).fr hf1 (by simp); have e0 := hb1.cell 0; have e1 := hb1.frozen; have e2 := hb2.cell 0; have e3 := hb2.frozen; simp at e0 e2; simp at e1 e3))
      refine bodyPost_ret (v := .tuple #[.string ⟨#[]⟩, .int .i64 80]) (by simp [results, Tryz.results47, go_sem, e0, e2]) rfl ⟨rfl, ?_⟩
      exact (((((Fr.refl _ w).alloc _).alloc _).trans hf1).setCell (.inr (by simp)) _).setCell (.inr (by simp)) _


theorem keeps_fr {S : List Nat} {B : Nat} {W W' : World} (h : Fr S W W') (hS : ∀ k, k ∈ S → ∃ t cs, Blk W k t cs) : KeepsFrom B W W' := (KeepsOthers.of_fr h hS).from B
/-- The boxes of the iterator, from s on, are blocks of their own types. -/
def BxB (W : World) (s : Nat) : Prop := ∀ k, k ∈ [s + 3, s + 2, s + 1, s + 4, s] → ∃ t cs, Blk W k t cs ∧ (t = 41 ∨ t = 43 ∨ t = 3)
theorem BxB.not {W : World} {s k : Nat} (h : BxB W s) {t : TypeId} {cs : Array Value} (hb : Blk W k t cs) (ht : t ≠ 41 ∧ t ≠ 43 ∧ t ≠ 3) : k ∉ [s + 3, s + 2, s + 1, s + 4, s] := by
  intro hk
  obtain ⟨t', cs', hb', h1⟩ := h k hk
  have := (hb.eq hb').1
  subst this
  rcases h1 with h1 | h1 | h1
  · exact ht.1 h1
  · exact ht.2.1 h1
  · exact ht.2.2 h1
theorem BxB.kp {W W' : World} {s : Nat} (h : BxB W s) (hk : ∀ k, k ∈ [s + 3, s + 2, s + 1, s + 4, s] → W'.heap[k]? = W.heap[k]?) : BxB W' s := by
  intro k hm
  obtain ⟨t, cs, hb, h1⟩ := h k hm
  exact ⟨t, cs, (hk k hm).trans hb, h1⟩
theorem BxB.alloc {W : World} {s : Nat} (h : BxB W s) (o : Obj) : BxB (W.alloc o) s := by
  intro k hm
  obtain ⟨t, cs, hb, h1⟩ := h k hm
  exact ⟨t, cs, hb.alloc o, h1⟩
/-- The invariant of Read's loop. -/
structure RdI (w : World) (st : St) (s2 : Nat) (pre : List (Yb (st.n * 256))) (W : World) : Prop where
  own : ∃ g c, Blk W (s2 + 1) 64 #[.slice (some ⟨g, 0, none⟩) pre.length c] ∧ W.ownsRow w.heap.size 5 1 (.slice (some ⟨g, 0, none⟩) pre.length c) pre.length (pre.map fun x => bv (yb st.b x))
  ok : allOk pre
  b0 : Blk W w.heap.size 9 #[.string ⟨#[]⟩]
  b1 : Blk W (w.heap.size + 1) 22 #[.int .i64 0]
  fr : Fr [] w W
  sz : s2 + 7 ≤ W.heap.size
  bx : BxB W (s2 + 2)
theorem RdI.from_ {w : World} {st : St} {s2 B : Nat} (hB : w.heap.size ≤ B) : OwnFrom B (RdI w st s2) := by
  rintro pre W W' row ⟨⟨g, c, hv, ho⟩, h2, h3, h4, h5, h6, h7⟩ hg hr
  exact ⟨⟨g, c, blk_grown hv hg hr, own_grown ho hg hr⟩, h2, blk_grown h3 hg hr, blk_grown h4 hg hr, ownFrom_fr (β := Unit) hB () W W' row h5 hg hr, Nat.le_trans h6 hg.size, fun k hk => by obtain ⟨t, cs, hb, h1⟩ := h7 k hk; exact ⟨t, cs, blk_grown hb hg hr, h1⟩⟩
/-- Read's loop has been left at an error. -/
def RdX (w : World) (st : St) (s2 : Nat) (c : Code) (pre : List (Yb (st.n * 256))) (W : World) : Prop :=
  ∃ pre' e he, c = .ret ∧ pre = pre' ++ [.bad e he] ∧ Blk W w.heap.size 9 #[.string ⟨#[]⟩] ∧ Blk W (w.heap.size + 1) 22 #[.int .i64 e] ∧ Fr [] w W
theorem RdX.from_ {w : World} {st : St} {s2 B : Nat} {c : Code} (hB : w.heap.size ≤ B) : OwnFrom B (RdX w st s2 c) := by
  rintro pre W W' row ⟨pre', e, he, h1, h2, h3, h4, h5⟩ hg hr
  exact ⟨pre', e, he, h1, h2, blk_grown h3 hg hr, blk_grown h4 hg hr, ownFrom_fr (β := Unit) hB () W W' row h5 hg hr⟩
/-- What a round's frame bears. -/
def RdA (w : World) (st : St) (F s2 : Nat) (x : Yb (st.n * 256)) (a' : Act) (W : World) : Prop :=
  ∃ ts : Array Value, a' = { tmps := ts, defers := [] } ∧ ts.size = 57 ∧ ts.getD 10 undef = ptr w.heap.size ∧ ts.getD 11 undef = ptr (w.heap.size + 1) ∧ ts.getD 13 undef = ptr (s2 + 1) ∧ ts.getD 14 undef = (yenc F x).getD 0 undef ∧ ts.getD 15 undef = (yenc F x).getD 1 undef
/-- The worlds of the region that appends a byte: b4: its cell is made; b5: it is appended; b6: the slice is stored. -/
structure RdW (w W : World) (st : St) (s2 : Nat) (pre : List (Yb (st.n * 256))) (c : UInt8) (x' : Value) (b4 b5 b6 : Bool) (w' : World) : Prop where
  r0 : b4 = false → w' = W.drew
  r1 : b4 = true → b5 = false → w' = W.drew.alloc (.cells #[.int .u8 (c.toNat : Int)] 5)
  r2 : b5 = true → b6 = false → w'.ownsRow w.heap.size 5 1 x' (pre.length + 1) ((pre.map fun x => bv (yb st.b x)) ++ [.int .u8 (c.toNat : Int)]) ∧ (∃ v, Blk w' (s2 + 1) 64 #[v]) ∧ Blk w' w.heap.size 9 #[.string ⟨#[]⟩] ∧ Blk w' (w.heap.size + 1) 22 #[.int .i64 0] ∧ Fr [] w w' ∧ W.heap.size ≤ w'.heap.size ∧ KeepsOthers W w' ∧ KpB w.heap.size [s2 + 5, s2 + 4, s2 + 3, s2 + 6, s2 + 2] W w'
  r3 : b6 = true → w'.ownsRow w.heap.size 5 1 x' (pre.length + 1) ((pre.map fun x => bv (yb st.b x)) ++ [.int .u8 (c.toNat : Int)]) ∧ Blk w' (s2 + 1) 64 #[x'] ∧ Blk w' w.heap.size 9 #[.string ⟨#[]⟩] ∧ Blk w' (w.heap.size + 1) 22 #[.int .i64 0] ∧ Fr [] w w' ∧ W.heap.size ≤ w'.heap.size ∧ KeepsOthers W w' ∧ KpB w.heap.size [s2 + 5, s2 + 4, s2 + 3, s2 + 6, s2 + 2] W w'
  sh : b5 = true → ∃ g c, x' = .slice (some ⟨g, 0, none⟩) (pre.length + 1) c
theorem RdW.start {w W : World} {st : St} {s2 : Nat} {pre : List (Yb (st.n * 256))} {c : UInt8} {x' : Value} : RdW w W st s2 pre c x' false false false W.drew :=
  ⟨(fun _ => rfl), (fun h => by cases h), (fun h => by cases h), (fun h => by cases h), (fun h => by cases h)⟩
theorem RdW.made {w W : World} {st : St} {s2 : Nat} {pre : List (Yb (st.n * 256))} {c : UInt8} {x' : Value} : RdW w W st s2 pre c x' true false false (W.drew.alloc (.cells #[.int .u8 (c.toNat : Int)] 5)) :=
  ⟨(fun h => by cases h), (fun _ _ => rfl), (fun h => by cases h), (fun h => by cases h), (fun h => by cases h)⟩
theorem RdW.appended {w W w'' : World} {st : St} {s2 : Nat} {pre : List (Yb (st.n * 256))} {c : UInt8} {v x' : Value} (hI : RdI w st s2 pre W) (hv : Blk W (s2 + 1) 64 #[v]) (hs : w.heap.size + 2 ≤ s2)
    (hX : (W.drew.alloc (.cells #[.int .u8 (c.toNat : Int)] 5)).ownsRow w.heap.size 5 1 v pre.length (pre.map fun x => bv (yb st.b x)))
    (ho : w''.ownsRow w.heap.size 5 1 x' (pre.length + 1) ((pre.map fun x => bv (yb st.b x)) ++ [.int .u8 (c.toNat : Int)])) (hg : (W.drew.alloc (.cells #[.int .u8 (c.toNat : Int)] 5)).grownBy w'' v.ownBlock) : RdW w W st s2 pre c x' true true false w'' := by
  have hsz := hI.sz
  have hbl := own_blk hX
  have hf : Fr v.ownBlock.toList (W.drew.alloc (.cells #[.int .u8 (c.toNat : Int)] 5)) w'' := Fr.of_own hg
  have hfW : Fr [] W (W.drew.alloc (.cells #[.int .u8 (c.toNat : Int)] 5)) := (Fr.refl [] W).drew.alloc _
  have hne : ∀ {k t cs}, Blk W k t cs → t ≠ 5 → k ∉ v.ownBlock.toList := by
    intro k t cs hb ht hm
    obtain ⟨_, cs', hb'⟩ := hbl k hm
    exact ht ((hb.fr hfW (by simp)).eq hb').1
  have hK : KeepsOthers W w'' := KeepsOthers.trans (KeepsOthers.of_fr hfW (by simp)) (KeepsOthers.of_fr hf (fun k hk => by obtain ⟨_, cs, hb⟩ := hbl k hk; exact ⟨5, cs, hb⟩))
  have hKp : KpB w.heap.size [s2 + 5, s2 + 4, s2 + 3, s2 + 6, s2 + 2] W w'' := by
    refine kpB_t (KpB.of_fr hfW (by omega) (by simp) (fun k hk => by simp at hk; omega)) (KpB.of_fr hf (by simp; omega) (fun k hk => ⟨(hbl k hk).1, fun hm => ?_⟩) (fun k hk => by simp at hk ⊢; omega))
    obtain ⟨_, cs, hb⟩ := hbl k hk
    obtain ⟨t, cs', hb', h1⟩ := hI.bx k hm
    have := ((hb'.fr hfW (by simp)).eq hb).1
    subst this
    revert h1
    decide
  refine ⟨(fun h => by cases h), (fun _ h => by cases h), (fun _ _ => ⟨ho, ⟨v, (hv.fr hfW (by simp)).fr hf (hne hv (by decide))⟩, (hI.b0.fr hfW (by simp)).fr hf (hne hI.b0 (by decide)), (hI.b1.fr hfW (by simp)).fr hf (hne hI.b1 (by decide)), (hI.fr.trans hfW).own hX hg, by have := hf.size; simp at this; omega, hK, hKp⟩), (fun h => by cases h), (fun _ => own_succ ho)⟩
theorem RdW.stored {w W w' : World} {st : St} {s2 : Nat} {pre : List (Yb (st.n * 256))} {c : UInt8} {x' : Value} (R : RdW w W st s2 pre c x' true true false w') (hs : w.heap.size + 2 ≤ s2) : RdW w W st s2 pre c x' true true true (w'.setCell ⟨s2 + 1, 0, none⟩ x') := by
  obtain ⟨h1, ⟨v, h2⟩, h3, h4, h5, h6, h7, h8⟩ := R.r2 rfl rfl
  refine ⟨(fun h => by cases h), (fun _ h => by cases h), (fun _ h => by cases h), (fun _ => ⟨?_, h2.set_ 0 _, h3.far (by simp; omega) _, h4.far (by simp; omega) _, h5.setCell (.inr (by simp; omega)) _, by simpa [World.setCell] using h6, h7.trans (KeepsOthers.setCell _ _ _), kpB_t h8 ?_⟩), R.sh⟩
  · exact own_fr h1 ((Fr.refl [s2 + 1] w').setCell (.inl (by simp)) _) (fun k hk cs hb => by simp at hk; subst hk; exact absurd (hb.eq h2).1 (by decide))
  · exact ⟨(Below.refl _ _).setCell (by simp; omega) _, fun k hk => Below.heap_setCell _ _ _ _ (by simp at hk; simp; omega)⟩
def RdPost (w : World) (st : St) (t : List Pg) (a r : Int) (n : Nat) (e : Ending) (w' : World) : Prop :=
  e = .returned (.tuple #[.string ⟨(if thr t r a n = 0 then (List.range n).map fun (i : Nat) => st.b (loc t (a + (i : Int))) else []).toArray⟩, .int .i64 (thr t r a n)]) ∧ Fr [] w w'
theorem Bx.below {W W' : World} {kn ka kt kr km n : Nat} {a r : Int} {tv : Value} {p : Nat} (h : Bx W kn ka kt kr km n a r tv p) (hb : Below W.heap.size W W') : Bx W' kn ka kt kr km n a r tv p :=
  h.kp (fun k hk => hb.block k (h.lts k hk))
theorem bytes_stops (F : Fence) (nf : Nat) (h42 : F.fn 99) (hro : F.round = none) (hn : 1 ≤ nf) (kn ka kt kr km n₀ n m cap b p Fb nfr : Nat) (A : Option Addr) (a r : Int) (t : List Pg)
    (hT : okT nfr t = true) (hm : m = t.length) (hn4 : n ≤ 4096) (ha : a ≤ 9223372036854775807) (w : World) (hB : Bx w kn ka kt kr km n a r (.slice A m cap) p) (ht : Tb w b (.slice A m cap) t) (hb : b < n₀) (hd : Hd w p Fb nfr) (hp : p < n₀) (hn₀ : n₀ ≤ w.heap.size) :
    SeqStopsK F nf Tryz.prog 99 #[ptr kn, ptr ka, ptr kt, ptr kr, ptr km] (yenc Fb) (KpB n₀ [kn, ka, kt, kr, km]) (fun ys => ys = yl (nfr * 256) t r a n) (fun pre => pre <+: yl (nfr * 256) t r a n) 4097 w := fun l J Jx W hW hJ _ hY h0 =>
  bytes1_in F nf h42 hro hn l kn ka kt kr km n₀ n m cap b p Fb nfr A a r t hT hm hn4 ha J Jx hY W hJ (hB.below hW) (ht.fr (Fr.of_below (S := []) hW (Nat.le_refl _)) (by simp)) hb (hd.fr (Fr.of_below (S := []) hW (Nat.le_refl _)) (by simp)) hp (Nat.le_trans hn₀ hW.size) h0
theorem Tryz.info5 : (Tryz.prog.info? 5).map (fun i => (i.zero, i.size, i.bytes)) = some (some (.int .u8 0), 1, 1) := by kernel_rfl
theorem made_u8 (n : Nat) (hn : n ≤ 4096) : ∃ Z : Array Value, Z.size = n ∧ ∀ w : World, (Instr.makeSlice 64 (.int .i64 0) (.int .i64 n)).run Tryz.prog w = .ok (.slice (some ⟨w.heap.size, 0, none⟩) 0 n) (w.alloc (.cells Z 5)) := by
  obtain ⟨i0, hi0, hz0, hz1, hz2⟩ := info3 Tryz.info5
  refine ⟨madeCells (Value.int .u8 0).cells (n * i0.size), by rw [hz1]; simp [madeCells], fun w => ?_⟩
  have := run_make (P := Tryz.prog) w 64 5 i0 _ Tryz.underlying64 hi0 hz0 .i64 .i64 0 n (by omega) (by omega) (by rw [hz2]; omega) (by omega)
  simpa using this
/-- The five boxes of the iterator. -/
theorem boxes5 (w : World) (s : Nat) (hs : w.heap.size = s) (p m cap n : Nat) (A : Option Addr) (a r : Int) :
    Bx (((((w.alloc (.cells #[ptr p] 41)).alloc (.cells #[.slice A m cap] 43)).alloc (.cells #[.int .i64 a] 3)).alloc (.cells #[.int .i64 n] 3)).alloc (.cells #[.int .i64 r] 3)) (s + 3) (s + 2) (s + 1) (s + 4) s n a r (.slice A m cap) p ∧ BxB (((((w.alloc (.cells #[ptr p] 41)).alloc (.cells #[.slice A m cap] 43)).alloc (.cells #[.int .i64 a] 3)).alloc (.cells #[.int .i64 n] 3)).alloc (.cells #[.int .i64 r] 3)) s := by
  have b0 := Blk.new w 41 #[ptr p]
  have b1 := Blk.new (w.alloc (.cells #[ptr p] 41)) 43 #[.slice A m cap]
  have b2 := Blk.new ((w.alloc (.cells #[ptr p] 41)).alloc (.cells #[.slice A m cap] 43)) 3 #[.int .i64 a]
  have b3 := Blk.new (((w.alloc (.cells #[ptr p] 41)).alloc (.cells #[.slice A m cap] 43)).alloc (.cells #[.int .i64 a] 3)) 3 #[.int .i64 n]
  have b4 := Blk.new ((((w.alloc (.cells #[ptr p] 41)).alloc (.cells #[.slice A m cap] 43)).alloc (.cells #[.int .i64 a] 3)).alloc (.cells #[.int .i64 n] 3)) 3 #[.int .i64 r]
  simp only [World.size_alloc, hs] at b0 b1 b2 b3 b4
  refine ⟨⟨(b3.alloc _).cell 0, ((b2.alloc _).alloc _).cell 0, (((b1.alloc _).alloc _).alloc _).cell 0, b4.cell 0, ((((b0.alloc _).alloc _).alloc _).alloc _).cell 0⟩, fun k hk => ?_⟩
  simp at hk
  rcases hk with rfl | rfl | rfl | rfl | rfl
  · exact ⟨_, _, b3.alloc _, by simp⟩
  · exact ⟨_, _, (b2.alloc _).alloc _, by simp⟩
  · exact ⟨_, _, ((b1.alloc _).alloc _).alloc _, by simp⟩
  · exact ⟨_, _, b4, by simp⟩
  · exact ⟨_, _, (((b0.alloc _).alloc _).alloc _).alloc _, by simp⟩
set_option maxRecDepth 100000 in
set_option maxHeartbeats 4000000 in
theorem Read_main (b p F m cap n : Nat) (st : St) (A : Option Addr) (t : List Pg) (a r : Int) (w : World) (ht : Tb w b (.slice A m cap) t) (h : MemAt w p F st) (hT : okT st.n t = true) (hn : n ≤ 4096) (hr : r = 1 ∨ r = 4) (ha : a ≤ 9223372036854775807) (hbw : b < w.heap.size) :
    Calls Tryz.prog 47 #[ptr p, .slice A m cap, .int .i64 a, .int .i64 n, .int .i64 r] w (RdPost w st t a r n) := by
  have Hc := Lib.hid fun w ht h => Check_ok b p F st.n m cap A t w ht h hT
  have H := Lib.hid ht
  have HM := Lib.hid h
  have HT := Lib.hid hT
  have Hm := Lib.hid ht.n_eq
  have hpw := h.hd.lt
  have hFw := h.ltF
  obtain ⟨Z, hZ, hmk⟩ := made_u8 n hn
  obtain ⟨i0, hi0, hz0, hz1, hz2⟩ := info3 Tryz.info5
  have HZ := Lib.hid hZ
  clear h ht hT hZ
  have d0 : decide ((n : Int) < 0) = false := by rw [decide_eq_false_iff_not]; omega
  have d1 : decide ((4096 : Int) < (n : Int)) = false := by rw [decide_eq_false_iff_not]; omega
  have HPost := Lib.hid (show RdPost w st t a r n = RdPost w st t a r n from rfl)
  obtain ⟨Po, hPo⟩ : ∃ Po, RdPost w st t a r n = Po := ⟨_, rfl⟩
  rw [hPo]
  have HPo := Lib.hid hPo
  clear hPo HPost
  rcases hr with rfl | rfl
  · refine (callsIn_wide (n := 3)).1 ?_
    refine callsIn_of_wp_marks Tryz.func47 rfl trivial (wpIn_wide.2 ?_)
    simp only [Tryz.ntmps47, List.size_toArray, List.length_cons, List.length_nil, Nat.reduceAdd, Nat.reduceSub, Array.replicate_succ, Array.replicate_zero, List.push_toArray, List.append_toArray, List.nil_append, List.cons_append]
    go_wp2_with (first
      | (go_at_call 77; go_must ((with_reducible refine (Hc.out _ (H.out.fr (((Fr.refl [] _).alloc _).alloc _) (by simp)) (HM.out.hd.fr (((Fr.refl [] _).alloc _).alloc _) (by simp))).mono ?_); rintro e w1 ⟨rfl, hf1⟩))
      | (go_at_call 79; go_must (refine ((callsIn_wide (n := 3)).1 (bytes_in Fence.wide 3 trivial rfl p m cap A a n _ _)).mono ?_; rintro e w' ⟨rfl, rfl⟩))
      | fail)
    have hf0 : Fr [] w w1 := (((Fr.refl [] w).alloc _).alloc _).trans hf1
    have bR0 := (((Blk.new w 9 #[.string ⟨#[]⟩]).alloc (.cells #[.int .i64 0] 22)).fr hf1 (by simp))
    have bR1 := ((Blk.new (w.alloc (.cells #[.string ⟨#[]⟩] 9)) 22 #[.int .i64 0])).fr hf1 (by simp)
    have hsz1 := hf1.size
    simp only [World.size_alloc] at bR1 hsz1
    generalize hs2 : w1.heap.size = s2 at *
    have hmo : ((w1.alloc (.cells Z 5)).alloc (.cells #[.slice (some ⟨s2, 0, none⟩) 0 n] 64)).ownsRow w.heap.size 5 1 (.slice (some ⟨s2, 0, none⟩) 0 n) 0 [] := by
      have h1 := World.ownsRow_made (base := w.heap.size) (e := 5) (size := 1) w1 Z n (by omega) (by simp only [maxLen]; omega) (by rw [HZ.out]; omega)
      rw [hs2] at h1
      exact h1.alloc _
    have bB : Blk ((w1.alloc (.cells Z 5)).alloc (.cells #[.slice (some ⟨s2, 0, none⟩) 0 n] 64)) (s2 + 1) 64 #[.slice (some ⟨s2, 0, none⟩) 0 n] := by
      have h1 := Blk.new (w1.alloc (.cells Z 5)) 64 #[.slice (some ⟨s2, 0, none⟩) 0 n]
      rwa [World.size_alloc, hs2] at h1
    have bR0 := (bR0.alloc (.cells Z 5)).alloc (.cells #[.slice (some ⟨s2, 0, none⟩) 0 n] 64)
    have bR1 := (bR1.alloc (.cells Z 5)).alloc (.cells #[.slice (some ⟨s2, 0, none⟩) 0 n] 64)
    have hf2 := (hf0.alloc (.cells Z 5)).alloc (.cells #[.slice (some ⟨s2, 0, none⟩) 0 n] 64)
    have hsz2 : ((w1.alloc (.cells Z 5)).alloc (.cells #[.slice (some ⟨s2, 0, none⟩) 0 n] 64)).heap.size = s2 + 2 := by simp [hs2]
    generalize (w1.alloc (.cells Z 5)).alloc (.cells #[.slice (some ⟨s2, 0, none⟩) 0 n] 64) = w2 at *
    clear hf1 hf0
    obtain ⟨hBx, hBB⟩ := boxes5 w2 (s2 + 2) hsz2 p m cap n A a 1
    have hI0 : RdI w st s2 [] (((((w2.alloc (.cells #[ptr p] 41)).alloc (.cells #[.slice A m cap] 43)).alloc (.cells #[.int .i64 a] 3)).alloc (.cells #[.int .i64 n] 3)).alloc (.cells #[.int .i64 1] 3)) :=
      ⟨⟨_, _, ((((bB.alloc _).alloc _).alloc _).alloc _).alloc _, ((((hmo.alloc _).alloc _).alloc _).alloc _).alloc _⟩, (fun x hx => by cases hx), ((((bR0.alloc _).alloc _).alloc _).alloc _).alloc _, ((((bR1.alloc _).alloc _).alloc _).alloc _).alloc _, ((((hf2.alloc _).alloc _).alloc _).alloc _).alloc _, by simp only [World.size_alloc, hsz2]; omega, hBB⟩
    have hsz0 := hI0.sz
    have hszE : (((((w2.alloc (.cells #[ptr p] 41)).alloc (.cells #[.slice A m cap] 43)).alloc (.cells #[.int .i64 a] 3)).alloc (.cells #[.int .i64 n] 3)).alloc (.cells #[.int .i64 1] 3)).heap.size = s2 + 7 := by simp only [World.size_alloc, hsz2]
    obtain ⟨W0, hW0⟩ : ∃ W0, ((((w2.alloc (.cells #[ptr p] 41)).alloc (.cells #[.slice A m cap] 43)).alloc (.cells #[.int .i64 a] 3)).alloc (.cells #[.int .i64 n] 3)).alloc (.cells #[.int .i64 1] 3) = W0 := ⟨_, rfl⟩
    rw [hW0] at hBx hI0 hsz0 hszE ⊢
    clear hBB
    clear hW0 hmo bB bR0 bR1 hf2
    have hfW := hI0.fr
    refine (wpIn_wide (n := 3)).1 ?_
    refine wpIn_rangeFunc_ownH rfl (by omega) (gf := 99) (lb := #[ptr (s2 + 5), ptr (s2 + 4), ptr (s2 + 3), ptr (s2 + 6), ptr (s2 + 2)]) rfl trivial (enters_of Tryz.func99 (by kernel_rfl) rfl)
      (bytes_stops Fence.wide (3 - 1) trivial rfl (by omega) (s2 + 5) (s2 + 4) (s2 + 3) (s2 + 6) (s2 + 2) w.heap.size n m cap b p F st.n A a 1 t HT.out Hm.out hn ha W0 hBx (H.out.fr hfW (by simp)) hbw (HM.out.hd.fr hfW (by simp)) hpw (by omega)) kpB_t (kpB_b (by omega) (by simp; omega)) (Below.refl _ _) (fun x => yenc_size F x)
      (RdI w st s2) (RdX w st s2) (RdI.from_ (by omega)) (fun c => RdX.from_ (by omega)) hI0
      (RdA w st F s2) (fun x a' => fun _ X Y row hs hg hr => hs)
      ?assign ?body ?done ?stop
    case assign =>
      rintro l' pre x W K hI hK
      cases x with
      | ok j hj =>
        unfold yenc
        gi_wp2
        exact hK _ _ (KeepsFrom.refl _ _) (KpB.refl _ _ _) hI ⟨_, rfl, rfl, rfl, rfl, rfl, rfl, rfl⟩
      | bad e he =>
        unfold yenc
        gi_wp2
        exact hK _ _ (KeepsFrom.refl _ _) (KpB.refl _ _ _) hI ⟨_, rfl, rfl, rfl, rfl, rfl, rfl, rfl⟩
    case body =>
      rintro l' pre x a' W hl' ⟨rr, hrr⟩ hI ⟨⟨ts⟩, rfl, hs, h10, h11, h13, h14, h15⟩ hlt
      match ts, hs with
      | u0 :: u1 :: u2 :: u3 :: u4 :: u5 :: u6 :: u7 :: u8 :: u9 :: u10 :: u11 :: u12 :: u13 :: u14 :: u15 :: u16 :: u17 :: u18 :: u19 :: u20 :: u21 :: u22 :: u23 :: u24 :: u25 :: u26 :: u27 :: u28 :: u29 :: u30 :: u31 :: u32 :: u33 :: u34 :: u35 :: u36 :: u37 :: u38 :: u39 :: u40 :: u41 :: u42 :: u43 :: u44 :: u45 :: u46 :: u47 :: u48 :: u49 :: u50 :: u51 :: u52 :: u53 :: u54 :: u55 :: u56 :: [], _ =>
      have e10 : u10 = ptr w.heap.size := h10
      have e11 : u11 = ptr (w.heap.size + 1) := h11
      have e13 : u13 = ptr (s2 + 1) := h13
      subst e10
      subst e11
      subst e13
      clear h10 h11 h13
      have HI := Lib.hid hI
      have hm' : Tryz.prog.follows .mixedOrders = true := by kernel_rfl
      cases x with
      | ok j hj =>
        have e14 : u14 = .pointer (some ⟨F, j, none⟩) := h14
        have e15 : u15 = .int .i64 0 := h15
        subst e14
        subst e15
        clear h14 h15
        obtain ⟨g3, c3, hv, ho⟩ := hI.own
        have q13 := hv.cell 0
        simp at q13
        have hlB := hv.lt
        have qF := (HM.out.to hI.fr (by simp) (by simp)).cell hj
        have hFW : F < W.heap.size := by have := hI.sz; omega
        have hsW := hI.sz
        obtain ⟨c, hcc⟩ : ∃ c, st.b j = c := ⟨_, rfl⟩
        rw [hcc] at qF
        have HC := Lib.hid hcc
        have HV := Lib.hid hv
        have HX0 := Lib.hid (own_fr ho ((Fr.refl [] W).drew.alloc (.cells #[.int .u8 (c.toNat : Int)] 5)) (by simp))
        clear hI hv ho hcc
        gi_wp2
        refine wpIn_region_inv2 hm' (by kernel_rfl) (fun L' a w' => ∃ x', a = { tmps := #[u0, u1, u2, u3, u4, u5, u6, u7, u8, u9, ptr w.heap.size, ptr (w.heap.size + 1), u12, ptr (s2 + 1), .pointer (some ⟨F, j, none⟩), .int .i64 0, u16, u17, u18, u19, u20, u21, u22, u23, u24, u25, u26, u27, u28, u29, u30, u31, u32, u33, u34, u35, u36, u37, u38, u39, u40, u41, u42, u43, u44, u45, .int .i64 0, .bool false, u48, bif L'.getD 0 false then .slice (some ⟨g3, 0, none⟩) pre.length c3 else u49, bif L'.getD 1 false then .pointer (some ⟨F, j, none⟩) else u50, bif L'.getD 2 false then .pointer (some ⟨F, j, none⟩) else u51, bif L'.getD 3 false then .int .u8 (c.toNat : Int) else u52, bif L'.getD 4 false then .slice (some ⟨W.heap.size, 0, none⟩) 1 1 else u53, bif L'.getD 5 false then x' else u54, u55, u56], defers := [] } ∧ RdW w W st s2 pre c x' (L'.getD 4 false) (L'.getD 5 false) (L'.getD 6 false) w') ⟨undef, rfl, RdW.start⟩ ?_ ?_
        · rintro ⟨L'⟩ _ w' i o hs ho hf hp hc ⟨x', rfl, hR⟩
          match L', hs with
          | [b0, b1, b2, b3, b4, b5, b6], _ =>
          have R : RdW w W st s2 pre c x' b4 b5 b6 w' := hR
          clear hR
          have K54 : b5 = true → b4 = true := fun h => by have := hc.needs (i := 5) (j := 4) (by kernel_rfl) h; exact this
          match i, ho with
          | 0, ho =>
            injection ho with ho
            subst ho
            have e5 : b5 = false := hc.off (i := 5) (j := 0) (by kernel_rfl) hf
            clear hc
            simp [Region.binds] at hf hp
            have ew : w' = W.drew ∨ w' = W.drew.alloc (.cells #[.int .u8 (c.toNat : Int)] 5) := by
              cases b4 with
              | false => exact .inl (R.r0 rfl)
              | true => exact .inr (R.r1 rfl e5)
            subst e5
            rcases ew with ew | ew
            · subst ew
              refine wpOpIn_step rfl (fun K' hK' => ?_)
              go_simp
              exact hK' _ _ ⟨x', by simp [hf, hp], R⟩
            · subst ew
              refine wpOpIn_step rfl (fun K' hK' => ?_)
              go_simp
              exact hK' _ _ ⟨x', by simp [hf, hp], R⟩
          | 1, ho =>
            injection ho with ho
            subst ho
            clear hc
            simp [Region.binds] at hf hp
            refine wpOpIn_step rfl (fun K' hK' => ?_)
            go_simp
            exact hK' _ _ ⟨x', by simp [hf, hp], R⟩
          | 2, ho =>
            injection ho with ho
            subst ho
            clear hc
            simp [Region.binds] at hf hp
            refine wpOpIn_step rfl (fun K' hK' => ?_)
            go_simp
            exact hK' _ _ ⟨x', by simp [hf, hp], R⟩
          | 3, ho =>
            injection ho with ho
            subst ho
            have e4 : b4 = false := hc.off (i := 4) (j := 3) (by kernel_rfl) hf
            clear hc
            simp [Region.binds] at hf hp
            have ew := R.r0 e4
            subst e4
            subst ew
            refine wpOpIn_step rfl (fun K' hK' => ?_)
            go_simp
            exact hK' _ _ ⟨x', by simp [hf, hp], R⟩
          | 4, ho =>
            injection ho with ho
            subst ho
            have e5 : b5 = false := hc.off (i := 5) (j := 4) (by kernel_rfl) hf
            have e6 : b6 = false := hc.off (i := 6) (j := 4) (by kernel_rfl) hf
            clear hc
            simp [Region.binds] at hf hp
            have ew := R.r0 hf
            subst ew
            subst e5
            subst e6
            refine wpOpIn_step rfl (fun K' hK' => ?_)
            go_simp
            exact hK' _ _ ⟨x', by simp [hf, hp], RdW.made⟩
          | 5, ho =>
            injection ho with ho
            subst ho
            have e6 : b6 = false := hc.off (i := 6) (j := 5) (by kernel_rfl) hf
            clear hc
            simp [Region.binds] at hf hp
            obtain ⟨k0, k4⟩ : b0 = true ∧ b4 = true := by simp [hp]
            have ew := R.r1 k4 hf
            subst ew
            subst e6
            refine wpOpIn_step rfl (fun K' hK' => ?_)
            rw [if_pos (by simp [Region.wanted])]
            refine wpIn_append (o := _) (hop := rfl) (s := .tmp 49) (x := .tmp 53) (t := 64) w.heap.size 5 i0 (.int .u8 0) 1 1 Tryz.underlying64 hi0 hz0 hz1 hz2 rfl (by decide) _ pre.length _ (by first | (simp [Act.eval, k0]; done) | (simp [Act.eval, k0]; rfl)) HX0.out ⟨W.heap.size, 0, none⟩ 1 1 [.int .u8 (c.toNat : Int)] (by first | (simp [Act.eval, k4]; done) | (simp [Act.eval, k4]; rfl)) rfl (news1 (by simp [go_sem])) (by simp [Value.oneCell']) (by simp only [maxLen]; omega) (by omega) (by simp; omega) ?_
            intro v' w'' ho' hg' hnn
            exact hK' _ _ ⟨v', by simp [hf, hp, Act.put], by subst k4; exact RdW.appended HI.out HV.out (by omega) HX0.out ho' hg'⟩
          | 6, ho =>
            injection ho with ho
            subst ho
            clear hc
            simp [Region.binds] at hf hp
            have k5 : b5 = true := by simp [hp]
            obtain ⟨q1, ⟨vq, q2⟩, q3⟩ := R.r2 k5 hf
            obtain ⟨g4, c4, rfl⟩ := R.sh k5
            have q4 := q2.cell 0
            have q5 := q2.frozen
            have q0 : vq.oneCell' = true ∨ True := .inr trivial
            simp at q4 q5
            refine wpOpIn_step rfl (fun K' hK' => ?_)
            go_simp
            exact hK' _ _ ⟨.slice (some ⟨g4, 0, none⟩) (pre.length + 1) c4, by simp [hf, hp], by have k4 : b4 = true := K54 k5; subst k4; subst k5; rw [hf] at R; exact R.stored (by omega)⟩
          | i + 7, ho => simp at ho
        · rintro _ w' ⟨x', rfl, hR⟩
          have R : RdW w W st s2 pre c x' true true true w' := hR
          clear hR
          obtain ⟨g4, c4, rfl⟩ := R.sh rfl
          obtain ⟨r1, r2, r3, r4, r5, r6, r7, r8⟩ := R.r3 rfl
          gi_wp2
          refine ⟨r7.from _, r8, ⟨g4, c4, by rw [List.length_append]; exact r2, ?_⟩, ?_, r3, r4, r5, by omega, HI.out.bx.kp r8.2⟩
          · rw [List.length_append, List.map_append]
            show w'.ownsRow w.heap.size 5 1 (.slice (some ⟨g4, 0, none⟩) (pre.length + 1) c4) (pre.length + 1) ((pre.map fun x => bv (yb st.b x)) ++ [bv (st.b j)])
            rw [HC.out]
            exact r1
          · intro y hy
            rcases List.mem_append.1 hy with hy | hy
            · exact HI.out.ok y hy
            · exact ⟨j, hj, by simpa using hy⟩
      | bad e he =>
        have e14 : u14 = .pointer none := h14
        have e15 : u15 = .int .i64 e := h15
        subst e14
        subst e15
        clear h14 h15
        have q0 := hI.b0.cell 0
        have q0f := hI.b0.frozen
        have q1 := hI.b1.cell 0
        have q1f := hI.b1.frozen
        simp at q0 q1
        have he0 : (e != 0) = true := by rw [bne_iff_ne]; omega
        have hsW := hI.sz
        have HE := Lib.hid he
        clear hI
        gi_wp2
        have hI := HI.out
        refine ⟨((KeepsOthers.setCell _ _ _).trans (KeepsOthers.setCell _ _ _)).from _, pre, e, HE.out, rfl, rfl, ?_, ?_, ?_⟩
        · exact (hI.b0.set_ 0 _).far (by simp) _
        · exact (hI.b1.far (by simp) _).set_ 0 _
        · exact (hI.fr.setCell (.inr (by simp)) _).setCell (.inr (by simp)) _
    case done =>
      rintro D zs W hD rfl hI hK
      obtain ⟨hok, hyl⟩ := yl_done HT.out hI.ok
      obtain ⟨g3, c3, hv, ho⟩ := hI.own
      have q13 := hv.cell 0
      simp at q13
      have hcv := conv_list (w := W) (g := g3) (o := 0) (cap := c3) ((yl (st.n * 256) t 1 a n).map (yb st.b)) (by rw [List.length_map]) (fun j c hj => by
        have h1 := ho.cells (g := g3) rfl j (bv c) (by
          rw [List.getElem?_map] at hj ⊢
          cases hq : (yl (st.n * 256) t 1 a n)[j]? with
          | none => rw [hq] at hj; cases hj
          | some y => rw [hq] at hj; simp at hj; simp [hj])
        rw [addr_add] at h1
        exact h1)
      have hrd : (yl (st.n * 256) t 1 a n).map (yb st.b) = (List.range n).map fun (i : Nat) => st.b (loc t (a + (i : Int))) := by rw [hyl]; exact ytk_map HT.out hok st.b
      have hth := thr_zero hok
      rw [hrd] at hcv
      have bR0 := hI.b0
      have bR1 := hI.b1
      have hfr := hI.fr
      have hlB := hv.lt
      have q0 := hI.b0.cell 0
      have q0f := hI.b0.frozen
      have q1 := hI.b1.cell 0
      have q1f := hI.b1.frozen
      simp at q0 q1
      have HFin : Hid (thr t 1 a n = 0) := Lib.hid hth
      have hK0 := Lib.hid hK
      have HB := Lib.hid (And.intro bR0 (And.intro bR1 hfr))
      generalize (yl (st.n * 256) t 1 a n).length = LL at *
      obtain ⟨SS, hSS⟩ : ∃ SS : ByteArray, SS = ⟨((List.range n).map fun (i : Nat) => st.b (loc t (a + (i : Int)))).toArray⟩ := ⟨_, rfl⟩
      rw [← hSS] at hcv
      have HSS := Lib.hid hSS
      clear hok hyl hv ho hrd hth hI hK bR0 bR1 hfr hSS
      go_wp2
      obtain ⟨bR0, bR1, hfr⟩ := HB.out
      have bR0 := (bR0.set_ 0 (.string SS)).far (p := ⟨w.heap.size + 1, 0, none⟩) (by simp) (.int .i64 0)
      have bR1 := (bR1.far (p := ⟨w.heap.size, 0, none⟩) (by simp) (.string SS)).set_ 0 (.int .i64 0)
      have hf3 : Fr [] w ((W.setCell ⟨w.heap.size, 0, none⟩ (.string SS)).setCell ⟨w.heap.size + 1, 0, none⟩ (.int .i64 0)) := (hfr.setCell (.inr (by simp)) _).setCell (.inr (by simp)) _
      have hK3 := ((KeepsOthers.setCell W ⟨w.heap.size, 0, none⟩ (.string SS)).trans (KeepsOthers.setCell _ ⟨w.heap.size + 1, 0, none⟩ (.int .i64 0))).same D _ hK0.out rfl
      generalize (W.setCell ⟨w.heap.size, 0, none⟩ (.string SS)).setCell ⟨w.heap.size + 1, 0, none⟩ (.int .i64 0) = W3 at *
      refine ⟨by simp, .inl ⟨_, _, rfl, run_takeDeferred hK3, ?_⟩⟩
      have c0 := (ownFrom_blk (β := Unit) D _ 9 (fun _ => _) () W3 (W3.putObj D (.deferred none)) (some D) bR0 (grownBy_putObj' W3 D _) (fun r e => by cases e; exact ⟨Nat.le_refl _, _, hK3, rfl⟩)).cell 0
      have c1 := (ownFrom_blk (β := Unit) D _ 22 (fun _ => _) () W3 (W3.putObj D (.deferred none)) (some D) bR1 (grownBy_putObj' W3 D _) (fun r e => by cases e; exact ⟨Nat.le_refl _, _, hK3, rfl⟩)).cell 0
      simp at c0 c1
      refine ⟨.tuple #[.string SS, .int .i64 0], by simp [results, Tryz.f47, go_sem, c0, c1], ?_⟩
      rw [← HPo.out]
      refine ⟨?_, hf3.putDef (by omega) hK3⟩
      rw [HFin.out, if_pos rfl, HSS.out]
    case stop =>
      rintro D c pre W hD hpre ⟨pre', e, he, rfl, rfl, bR0, bR1, hfr⟩ hK
      have hth := yl_stop HT.out hpre
      have q0 := bR0.cell 0
      have q1 := bR1.cell 0
      simp at q0 q1
      have HFin := Lib.hid hth
      have HHe := Lib.hid he
      clear hth hpre he
      refine (wpIn_wide (n := 3)).2 ?_
      go_wp2
      refine ⟨by simp, .inl ⟨_, _, rfl, run_takeDeferred hK, ?_⟩⟩
      have c0 := (ownFrom_blk (β := Unit) D _ 9 (fun _ => _) () W (W.putObj D (.deferred none)) (some D) bR0 (grownBy_putObj' W D _) (fun r e => by cases e; exact ⟨Nat.le_refl _, _, hK, rfl⟩)).cell 0
      have c1 := (ownFrom_blk (β := Unit) D _ 22 (fun _ => _) () W (W.putObj D (.deferred none)) (some D) bR1 (grownBy_putObj' W D _) (fun r e => by cases e; exact ⟨Nat.le_refl _, _, hK, rfl⟩)).cell 0
      simp at c0 c1
      refine ⟨.tuple #[.string ⟨#[]⟩, .int .i64 e], by simp [results, Tryz.f47, go_sem, c0, c1], ?_⟩
      rw [← HPo.out]
      refine ⟨?_, hfr.putDef (by omega) hK⟩
      rw [HFin.out, if_neg (by have := HHe.out; omega)]
  · refine (callsIn_wide (n := 3)).1 ?_
    refine callsIn_of_wp_marks Tryz.func47 rfl trivial (wpIn_wide.2 ?_)
    simp only [Tryz.ntmps47, List.size_toArray, List.length_cons, List.length_nil, Nat.reduceAdd, Nat.reduceSub, Array.replicate_succ, Array.replicate_zero, List.push_toArray, List.append_toArray, List.nil_append, List.cons_append]
    go_wp2_with (first
      | (go_at_call 77; go_must ((with_reducible refine (Hc.out _ (H.out.fr (((Fr.refl [] _).alloc _).alloc _) (by simp)) (HM.out.hd.fr (((Fr.refl [] _).alloc _).alloc _) (by simp))).mono ?_); rintro e w1 ⟨rfl, hf1⟩))
      | (go_at_call 79; go_must (refine ((callsIn_wide (n := 3)).1 (bytes_in Fence.wide 3 trivial rfl p m cap A a n _ _)).mono ?_; rintro e w' ⟨rfl, rfl⟩))
      | fail)
    have hf0 : Fr [] w w1 := (((Fr.refl [] w).alloc _).alloc _).trans hf1
    have bR0 := (((Blk.new w 9 #[.string ⟨#[]⟩]).alloc (.cells #[.int .i64 0] 22)).fr hf1 (by simp))
    have bR1 := ((Blk.new (w.alloc (.cells #[.string ⟨#[]⟩] 9)) 22 #[.int .i64 0])).fr hf1 (by simp)
    have hsz1 := hf1.size
    simp only [World.size_alloc] at bR1 hsz1
    generalize hs2 : w1.heap.size = s2 at *
    have hmo : ((w1.alloc (.cells Z 5)).alloc (.cells #[.slice (some ⟨s2, 0, none⟩) 0 n] 64)).ownsRow w.heap.size 5 1 (.slice (some ⟨s2, 0, none⟩) 0 n) 0 [] := by
      have h1 := World.ownsRow_made (base := w.heap.size) (e := 5) (size := 1) w1 Z n (by omega) (by simp only [maxLen]; omega) (by rw [HZ.out]; omega)
      rw [hs2] at h1
      exact h1.alloc _
    have bB : Blk ((w1.alloc (.cells Z 5)).alloc (.cells #[.slice (some ⟨s2, 0, none⟩) 0 n] 64)) (s2 + 1) 64 #[.slice (some ⟨s2, 0, none⟩) 0 n] := by
      have h1 := Blk.new (w1.alloc (.cells Z 5)) 64 #[.slice (some ⟨s2, 0, none⟩) 0 n]
      rwa [World.size_alloc, hs2] at h1
    have bR0 := (bR0.alloc (.cells Z 5)).alloc (.cells #[.slice (some ⟨s2, 0, none⟩) 0 n] 64)
    have bR1 := (bR1.alloc (.cells Z 5)).alloc (.cells #[.slice (some ⟨s2, 0, none⟩) 0 n] 64)
    have hf2 := (hf0.alloc (.cells Z 5)).alloc (.cells #[.slice (some ⟨s2, 0, none⟩) 0 n] 64)
    have hsz2 : ((w1.alloc (.cells Z 5)).alloc (.cells #[.slice (some ⟨s2, 0, none⟩) 0 n] 64)).heap.size = s2 + 2 := by simp [hs2]
    generalize (w1.alloc (.cells Z 5)).alloc (.cells #[.slice (some ⟨s2, 0, none⟩) 0 n] 64) = w2 at *
    clear hf1 hf0
    obtain ⟨hBx, hBB⟩ := boxes5 w2 (s2 + 2) hsz2 p m cap n A a 4
    have hI0 : RdI w st s2 [] (((((w2.alloc (.cells #[ptr p] 41)).alloc (.cells #[.slice A m cap] 43)).alloc (.cells #[.int .i64 a] 3)).alloc (.cells #[.int .i64 n] 3)).alloc (.cells #[.int .i64 4] 3)) :=
      ⟨⟨_, _, ((((bB.alloc _).alloc _).alloc _).alloc _).alloc _, ((((hmo.alloc _).alloc _).alloc _).alloc _).alloc _⟩, (fun x hx => by cases hx), ((((bR0.alloc _).alloc _).alloc _).alloc _).alloc _, ((((bR1.alloc _).alloc _).alloc _).alloc _).alloc _, ((((hf2.alloc _).alloc _).alloc _).alloc _).alloc _, by simp only [World.size_alloc, hsz2]; omega, hBB⟩
    have hsz0 := hI0.sz
    have hszE : (((((w2.alloc (.cells #[ptr p] 41)).alloc (.cells #[.slice A m cap] 43)).alloc (.cells #[.int .i64 a] 3)).alloc (.cells #[.int .i64 n] 3)).alloc (.cells #[.int .i64 4] 3)).heap.size = s2 + 7 := by simp only [World.size_alloc, hsz2]
    obtain ⟨W0, hW0⟩ : ∃ W0, ((((w2.alloc (.cells #[ptr p] 41)).alloc (.cells #[.slice A m cap] 43)).alloc (.cells #[.int .i64 a] 3)).alloc (.cells #[.int .i64 n] 3)).alloc (.cells #[.int .i64 4] 3) = W0 := ⟨_, rfl⟩
    rw [hW0] at hBx hI0 hsz0 hszE ⊢
    clear hBB
    clear hW0 hmo bB bR0 bR1 hf2
    have hfW := hI0.fr
    refine (wpIn_wide (n := 3)).1 ?_
    refine wpIn_rangeFunc_ownH rfl (by omega) (gf := 99) (lb := #[ptr (s2 + 5), ptr (s2 + 4), ptr (s2 + 3), ptr (s2 + 6), ptr (s2 + 2)]) rfl trivial (enters_of Tryz.func99 (by kernel_rfl) rfl)
      (bytes_stops Fence.wide (3 - 1) trivial rfl (by omega) (s2 + 5) (s2 + 4) (s2 + 3) (s2 + 6) (s2 + 2) w.heap.size n m cap b p F st.n A a 4 t HT.out Hm.out hn ha W0 hBx (H.out.fr hfW (by simp)) hbw (HM.out.hd.fr hfW (by simp)) hpw (by omega)) kpB_t (kpB_b (by omega) (by simp; omega)) (Below.refl _ _) (fun x => yenc_size F x)
      (RdI w st s2) (RdX w st s2) (RdI.from_ (by omega)) (fun c => RdX.from_ (by omega)) hI0
      (RdA w st F s2) (fun x a' => fun _ X Y row hs hg hr => hs)
      ?assign ?body ?done ?stop
    case assign =>
      rintro l' pre x W K hI hK
      cases x with
      | ok j hj =>
        unfold yenc
        gi_wp2
        exact hK _ _ (KeepsFrom.refl _ _) (KpB.refl _ _ _) hI ⟨_, rfl, rfl, rfl, rfl, rfl, rfl, rfl⟩
      | bad e he =>
        unfold yenc
        gi_wp2
        exact hK _ _ (KeepsFrom.refl _ _) (KpB.refl _ _ _) hI ⟨_, rfl, rfl, rfl, rfl, rfl, rfl, rfl⟩
    case body =>
      rintro l' pre x a' W hl' ⟨rr, hrr⟩ hI ⟨⟨ts⟩, rfl, hs, h10, h11, h13, h14, h15⟩ hlt
      match ts, hs with
      | u0 :: u1 :: u2 :: u3 :: u4 :: u5 :: u6 :: u7 :: u8 :: u9 :: u10 :: u11 :: u12 :: u13 :: u14 :: u15 :: u16 :: u17 :: u18 :: u19 :: u20 :: u21 :: u22 :: u23 :: u24 :: u25 :: u26 :: u27 :: u28 :: u29 :: u30 :: u31 :: u32 :: u33 :: u34 :: u35 :: u36 :: u37 :: u38 :: u39 :: u40 :: u41 :: u42 :: u43 :: u44 :: u45 :: u46 :: u47 :: u48 :: u49 :: u50 :: u51 :: u52 :: u53 :: u54 :: u55 :: u56 :: [], _ =>
      have e10 : u10 = ptr w.heap.size := h10
      have e11 : u11 = ptr (w.heap.size + 1) := h11
      have e13 : u13 = ptr (s2 + 1) := h13
      subst e10
      subst e11
      subst e13
      clear h10 h11 h13
      have HI := Lib.hid hI
      have hm' : Tryz.prog.follows .mixedOrders = true := by kernel_rfl
      cases x with
      | ok j hj =>
        have e14 : u14 = .pointer (some ⟨F, j, none⟩) := h14
        have e15 : u15 = .int .i64 0 := h15
        subst e14
        subst e15
        clear h14 h15
        obtain ⟨g3, c3, hv, ho⟩ := hI.own
        have q13 := hv.cell 0
        simp at q13
        have hlB := hv.lt
        have qF := (HM.out.to hI.fr (by simp) (by simp)).cell hj
        have hFW : F < W.heap.size := by have := hI.sz; omega
        have hsW := hI.sz
        obtain ⟨c, hcc⟩ : ∃ c, st.b j = c := ⟨_, rfl⟩
        rw [hcc] at qF
        have HC := Lib.hid hcc
        have HV := Lib.hid hv
        have HX0 := Lib.hid (own_fr ho ((Fr.refl [] W).drew.alloc (.cells #[.int .u8 (c.toNat : Int)] 5)) (by simp))
        clear hI hv ho hcc
        gi_wp2
        refine wpIn_region_inv2 hm' (by kernel_rfl) (fun L' a w' => ∃ x', a = { tmps := #[u0, u1, u2, u3, u4, u5, u6, u7, u8, u9, ptr w.heap.size, ptr (w.heap.size + 1), u12, ptr (s2 + 1), .pointer (some ⟨F, j, none⟩), .int .i64 0, u16, u17, u18, u19, u20, u21, u22, u23, u24, u25, u26, u27, u28, u29, u30, u31, u32, u33, u34, u35, u36, u37, u38, u39, u40, u41, u42, u43, u44, u45, .int .i64 0, .bool false, u48, bif L'.getD 0 false then .slice (some ⟨g3, 0, none⟩) pre.length c3 else u49, bif L'.getD 1 false then .pointer (some ⟨F, j, none⟩) else u50, bif L'.getD 2 false then .pointer (some ⟨F, j, none⟩) else u51, bif L'.getD 3 false then .int .u8 (c.toNat : Int) else u52, bif L'.getD 4 false then .slice (some ⟨W.heap.size, 0, none⟩) 1 1 else u53, bif L'.getD 5 false then x' else u54, u55, u56], defers := [] } ∧ RdW w W st s2 pre c x' (L'.getD 4 false) (L'.getD 5 false) (L'.getD 6 false) w') ⟨undef, rfl, RdW.start⟩ ?_ ?_
        · rintro ⟨L'⟩ _ w' i o hs ho hf hp hc ⟨x', rfl, hR⟩
          match L', hs with
          | [b0, b1, b2, b3, b4, b5, b6], _ =>
          have R : RdW w W st s2 pre c x' b4 b5 b6 w' := hR
          clear hR
          have K54 : b5 = true → b4 = true := fun h => by have := hc.needs (i := 5) (j := 4) (by kernel_rfl) h; exact this
          match i, ho with
          | 0, ho =>
            injection ho with ho
            subst ho
            have e5 : b5 = false := hc.off (i := 5) (j := 0) (by kernel_rfl) hf
            clear hc
            simp [Region.binds] at hf hp
            have ew : w' = W.drew ∨ w' = W.drew.alloc (.cells #[.int .u8 (c.toNat : Int)] 5) := by
              cases b4 with
              | false => exact .inl (R.r0 rfl)
              | true => exact .inr (R.r1 rfl e5)
            subst e5
            rcases ew with ew | ew
            · subst ew
              refine wpOpIn_step rfl (fun K' hK' => ?_)
              go_simp
              exact hK' _ _ ⟨x', by simp [hf, hp], R⟩
            · subst ew
              refine wpOpIn_step rfl (fun K' hK' => ?_)
              go_simp
              exact hK' _ _ ⟨x', by simp [hf, hp], R⟩
          | 1, ho =>
            injection ho with ho
            subst ho
            clear hc
            simp [Region.binds] at hf hp
            refine wpOpIn_step rfl (fun K' hK' => ?_)
            go_simp
            exact hK' _ _ ⟨x', by simp [hf, hp], R⟩
          | 2, ho =>
            injection ho with ho
            subst ho
            clear hc
            simp [Region.binds] at hf hp
            refine wpOpIn_step rfl (fun K' hK' => ?_)
            go_simp
            exact hK' _ _ ⟨x', by simp [hf, hp], R⟩
          | 3, ho =>
            injection ho with ho
            subst ho
            have e4 : b4 = false := hc.off (i := 4) (j := 3) (by kernel_rfl) hf
            clear hc
            simp [Region.binds] at hf hp
            have ew := R.r0 e4
            subst e4
            subst ew
            refine wpOpIn_step rfl (fun K' hK' => ?_)
            go_simp
            exact hK' _ _ ⟨x', by simp [hf, hp], R⟩
          | 4, ho =>
            injection ho with ho
            subst ho
            have e5 : b5 = false := hc.off (i := 5) (j := 4) (by kernel_rfl) hf
            have e6 : b6 = false := hc.off (i := 6) (j := 4) (by kernel_rfl) hf
            clear hc
            simp [Region.binds] at hf hp
            have ew := R.r0 hf
            subst ew
            subst e5
            subst e6
            refine wpOpIn_step rfl (fun K' hK' => ?_)
            go_simp
            exact hK' _ _ ⟨x', by simp [hf, hp], RdW.made⟩
          | 5, ho =>
            injection ho with ho
            subst ho
            have e6 : b6 = false := hc.off (i := 6) (j := 5) (by kernel_rfl) hf
            clear hc
            simp [Region.binds] at hf hp
            obtain ⟨k0, k4⟩ : b0 = true ∧ b4 = true := by simp [hp]
            have ew := R.r1 k4 hf
            subst ew
            subst e6
            refine wpOpIn_step rfl (fun K' hK' => ?_)
            rw [if_pos (by simp [Region.wanted])]
            refine wpIn_append (o := _) (hop := rfl) (s := .tmp 49) (x := .tmp 53) (t := 64) w.heap.size 5 i0 (.int .u8 0) 1 1 Tryz.underlying64 hi0 hz0 hz1 hz2 rfl (by decide) _ pre.length _ (by first | (simp [Act.eval, k0]; done) | (simp [Act.eval, k0]; rfl)) HX0.out ⟨W.heap.size, 0, none⟩ 1 1 [.int .u8 (c.toNat : Int)] (by first | (simp [Act.eval, k4]; done) | (simp [Act.eval, k4]; rfl)) rfl (news1 (by simp [go_sem])) (by simp [Value.oneCell']) (by simp only [maxLen]; omega) (by omega) (by simp; omega) ?_
            intro v' w'' ho' hg' hnn
            exact hK' _ _ ⟨v', by simp [hf, hp, Act.put], by subst k4; exact RdW.appended HI.out HV.out (by omega) HX0.out ho' hg'⟩
          | 6, ho =>
            injection ho with ho
            subst ho
            clear hc
            simp [Region.binds] at hf hp
            have k5 : b5 = true := by simp [hp]
            obtain ⟨q1, ⟨vq, q2⟩, q3⟩ := R.r2 k5 hf
            obtain ⟨g4, c4, rfl⟩ := R.sh k5
            have q4 := q2.cell 0
            have q5 := q2.frozen
            have q0 : vq.oneCell' = true ∨ True := .inr trivial
            simp at q4 q5
            refine wpOpIn_step rfl (fun K' hK' => ?_)
            go_simp
            exact hK' _ _ ⟨.slice (some ⟨g4, 0, none⟩) (pre.length + 1) c4, by simp [hf, hp], by have k4 : b4 = true := K54 k5; subst k4; subst k5; rw [hf] at R; exact R.stored (by omega)⟩
          | i + 7, ho => simp at ho
        · rintro _ w' ⟨x', rfl, hR⟩
          have R : RdW w W st s2 pre c x' true true true w' := hR
          clear hR
          obtain ⟨g4, c4, rfl⟩ := R.sh rfl
          obtain ⟨r1, r2, r3, r4, r5, r6, r7, r8⟩ := R.r3 rfl
          gi_wp2
          refine ⟨r7.from _, r8, ⟨g4, c4, by rw [List.length_append]; exact r2, ?_⟩, ?_, r3, r4, r5, by omega, HI.out.bx.kp r8.2⟩
          · rw [List.length_append, List.map_append]
            show w'.ownsRow w.heap.size 5 1 (.slice (some ⟨g4, 0, none⟩) (pre.length + 1) c4) (pre.length + 1) ((pre.map fun x => bv (yb st.b x)) ++ [bv (st.b j)])
            rw [HC.out]
            exact r1
          · intro y hy
            rcases List.mem_append.1 hy with hy | hy
            · exact HI.out.ok y hy
            · exact ⟨j, hj, by simpa using hy⟩
      | bad e he =>
        have e14 : u14 = .pointer none := h14
        have e15 : u15 = .int .i64 e := h15
        subst e14
        subst e15
        clear h14 h15
        have q0 := hI.b0.cell 0
        have q0f := hI.b0.frozen
        have q1 := hI.b1.cell 0
        have q1f := hI.b1.frozen
        simp at q0 q1
        have he0 : (e != 0) = true := by rw [bne_iff_ne]; omega
        have hsW := hI.sz
        have HE := Lib.hid he
        clear hI
        gi_wp2
        have hI := HI.out
        refine ⟨((KeepsOthers.setCell _ _ _).trans (KeepsOthers.setCell _ _ _)).from _, pre, e, HE.out, rfl, rfl, ?_, ?_, ?_⟩
        · exact (hI.b0.set_ 0 _).far (by simp) _
        · exact (hI.b1.far (by simp) _).set_ 0 _
        · exact (hI.fr.setCell (.inr (by simp)) _).setCell (.inr (by simp)) _
    case done =>
      rintro D zs W hD rfl hI hK
      obtain ⟨hok, hyl⟩ := yl_done HT.out hI.ok
      obtain ⟨g3, c3, hv, ho⟩ := hI.own
      have q13 := hv.cell 0
      simp at q13
      have hcv := conv_list (w := W) (g := g3) (o := 0) (cap := c3) ((yl (st.n * 256) t 4 a n).map (yb st.b)) (by rw [List.length_map]) (fun j c hj => by
        have h1 := ho.cells (g := g3) rfl j (bv c) (by
          rw [List.getElem?_map] at hj ⊢
          cases hq : (yl (st.n * 256) t 4 a n)[j]? with
          | none => rw [hq] at hj; cases hj
          | some y => rw [hq] at hj; simp at hj; simp [hj])
        rw [addr_add] at h1
        exact h1)
      have hrd : (yl (st.n * 256) t 4 a n).map (yb st.b) = (List.range n).map fun (i : Nat) => st.b (loc t (a + (i : Int))) := by rw [hyl]; exact ytk_map HT.out hok st.b
      have hth := thr_zero hok
      rw [hrd] at hcv
      have bR0 := hI.b0
      have bR1 := hI.b1
      have hfr := hI.fr
      have hlB := hv.lt
      have q0 := hI.b0.cell 0
      have q0f := hI.b0.frozen
      have q1 := hI.b1.cell 0
      have q1f := hI.b1.frozen
      simp at q0 q1
      have HFin : Hid (thr t 4 a n = 0) := Lib.hid hth
      have hK0 := Lib.hid hK
      have HB := Lib.hid (And.intro bR0 (And.intro bR1 hfr))
      generalize (yl (st.n * 256) t 4 a n).length = LL at *
      obtain ⟨SS, hSS⟩ : ∃ SS : ByteArray, SS = ⟨((List.range n).map fun (i : Nat) => st.b (loc t (a + (i : Int)))).toArray⟩ := ⟨_, rfl⟩
      rw [← hSS] at hcv
      have HSS := Lib.hid hSS
      clear hok hyl hv ho hrd hth hI hK bR0 bR1 hfr hSS
      go_wp2
      obtain ⟨bR0, bR1, hfr⟩ := HB.out
      have bR0 := (bR0.set_ 0 (.string SS)).far (p := ⟨w.heap.size + 1, 0, none⟩) (by simp) (.int .i64 0)
      have bR1 := (bR1.far (p := ⟨w.heap.size, 0, none⟩) (by simp) (.string SS)).set_ 0 (.int .i64 0)
      have hf3 : Fr [] w ((W.setCell ⟨w.heap.size, 0, none⟩ (.string SS)).setCell ⟨w.heap.size + 1, 0, none⟩ (.int .i64 0)) := (hfr.setCell (.inr (by simp)) _).setCell (.inr (by simp)) _
      have hK3 := ((KeepsOthers.setCell W ⟨w.heap.size, 0, none⟩ (.string SS)).trans (KeepsOthers.setCell _ ⟨w.heap.size + 1, 0, none⟩ (.int .i64 0))).same D _ hK0.out rfl
      generalize (W.setCell ⟨w.heap.size, 0, none⟩ (.string SS)).setCell ⟨w.heap.size + 1, 0, none⟩ (.int .i64 0) = W3 at *
      refine ⟨by simp, .inl ⟨_, _, rfl, run_takeDeferred hK3, ?_⟩⟩
      have c0 := (ownFrom_blk (β := Unit) D _ 9 (fun _ => _) () W3 (W3.putObj D (.deferred none)) (some D) bR0 (grownBy_putObj' W3 D _) (fun r e => by cases e; exact ⟨Nat.le_refl _, _, hK3, rfl⟩)).cell 0
      have c1 := (ownFrom_blk (β := Unit) D _ 22 (fun _ => _) () W3 (W3.putObj D (.deferred none)) (some D) bR1 (grownBy_putObj' W3 D _) (fun r e => by cases e; exact ⟨Nat.le_refl _, _, hK3, rfl⟩)).cell 0
      simp at c0 c1
      refine ⟨.tuple #[.string SS, .int .i64 0], by simp [results, Tryz.f47, go_sem, c0, c1], ?_⟩
      rw [← HPo.out]
      refine ⟨?_, hf3.putDef (by omega) hK3⟩
      rw [HFin.out, if_pos rfl, HSS.out]
    case stop =>
      rintro D c pre W hD hpre ⟨pre', e, he, rfl, rfl, bR0, bR1, hfr⟩ hK
      have hth := yl_stop HT.out hpre
      have q0 := bR0.cell 0
      have q1 := bR1.cell 0
      simp at q0 q1
      have HFin := Lib.hid hth
      have HHe := Lib.hid he
      clear hth hpre he
      refine (wpIn_wide (n := 3)).2 ?_
      go_wp2
      refine ⟨by simp, .inl ⟨_, _, rfl, run_takeDeferred hK, ?_⟩⟩
      have c0 := (ownFrom_blk (β := Unit) D _ 9 (fun _ => _) () W (W.putObj D (.deferred none)) (some D) bR0 (grownBy_putObj' W D _) (fun r e => by cases e; exact ⟨Nat.le_refl _, _, hK, rfl⟩)).cell 0
      have c1 := (ownFrom_blk (β := Unit) D _ 22 (fun _ => _) () W (W.putObj D (.deferred none)) (some D) bR1 (grownBy_putObj' W D _) (fun r e => by cases e; exact ⟨Nat.le_refl _, _, hK, rfl⟩)).cell 0
      simp at c0 c1
      refine ⟨.tuple #[.string ⟨#[]⟩, .int .i64 e], by simp [results, Tryz.f47, go_sem, c0, c1], ?_⟩
      rw [← HPo.out]
      refine ⟨?_, hfr.putDef (by omega) hK⟩
      rw [HFin.out, if_neg (by have := HHe.out; omega)]
end Go.Proofs.YtbmaecdlkchkeaaGreatDoor
namespace Go.Proofs.YtbmaecdlkchkeaaGreatDoor
open Go.RowKit Go.Shelf
set_option linter.unusedVariables false
set_option maxRecDepth 100000
set_option linter.unusedSimpArgs false
/-- What Read tells. -/
def rdRM (st : St) (t : List Pg) (a n r : Int) : List UInt8 × Int :=
  if okT st.n t = false then ([], 84) else if n < 0 ∨ 4096 < n ∨ (r ≠ 1 ∧ r ≠ 4) then ([], 80) else
    (if thr t r a n.toNat = 0 then (List.range n.toNat).map fun (i : Nat) => st.b (loc t (a + (i : Int))) else [], thr t r a n.toNat)
def ReadP (w : World) (st : St) (t : List Pg) (a n r : Int) (e : Ending) (w' : World) : Prop :=
  e = .returned (.tuple #[.string ⟨(rdRM st t a n r).1.toArray⟩, .int .i64 (rdRM st t a n r).2]) ∧ Fr [] w w'
theorem Read_any (b p F m cap : Nat) (st : St) (A : Option Addr) (t : List Pg) (a n r : Int) (w : World) (ht : Tb w b (.slice A m cap) t) (h : MemAt w p F st) (ha : a ≤ 9223372036854775807) (hbw : b < w.heap.size) :
    Calls Tryz.prog 47 #[ptr p, .slice A m cap, .int .i64 a, .int .i64 n, .int .i64 r] w (ReadP w st t a n r) := by
  cases hT : okT st.n t with
  | false =>
    refine (Read_no b p F m cap st A t a n r w ht h hT).mono fun e w' ⟨he, hf⟩ => ⟨?_, hf⟩
    have e0 : rdRM st t a n r = ([], 84) := by unfold rdRM; rw [if_pos hT]
    rw [he, e0]
  | true =>
    by_cases hs : n < 0 ∨ 4096 < n ∨ (r ≠ 1 ∧ r ≠ 4)
    · refine (Read_size b p F m cap st A t a n r w ht h hT hs).mono fun e w' ⟨he, hf⟩ => ⟨?_, hf⟩
      have e0 : rdRM st t a n r = ([], 80) := by unfold rdRM; rw [if_neg (by rw [hT]; simp), if_pos hs]
      rw [he, e0]
    · obtain ⟨k, rfl⟩ := Int.eq_ofNat_of_zero_le (by omega : 0 ≤ n)
      refine (Read_main b p F m cap k st A t a r w ht h hT (by omega) (by omega) ha hbw).mono fun e w' ⟨he, hf⟩ => ⟨?_, hf⟩
      have e0 : rdRM st t a k r = (if thr t r a k = 0 then (List.range k).map fun (i : Nat) => st.b (loc t (a + (i : Int))) else [], thr t r a k) := by unfold rdRM; rw [if_neg (by rw [hT]; simp), if_neg hs, Int.toNat_natCast]
      rw [he, e0]
set_option maxHeartbeats 400000 in
theorem Write_no (b p F m cap : Nat) (st : St) (A : Option Addr) (t : List Pg) (a : Int) (s : ByteArray) (w : World) (ht : Tb w b (.slice A m cap) t) (h : MemAt w p F st) (hT : okT st.n t = false) :
    Calls Tryz.prog 78 #[ptr p, .slice A m cap, .int .i64 a, .string s] w fun e w' => e = .returned (.int .i64 84) ∧ Fr [] w w' := by
  have Hc := Lib.hid fun w ht h => Check_no b p F st.n m cap A t w ht h hT
  have H := Lib.hid ht
  have HM := Lib.hid h
  clear h ht hT
  go_enter Tryz.func78, Tryz.ntmps78
  go_wp2_with (go_at_call 77; go_must ((with_reducible refine (Hc.out _ (H.out.fr ((Fr.refl [] _).alloc _) (by simp)) (HM.out.hd.fr ((Fr.refl [] _).alloc _) (by simp))).mono ?_); rintro e w1 ⟨rfl, hf1⟩; have hb1 := (Blk.new w 22 #[.int .i64 0]).fr hf1 (by simp); have e0 := hb1.cell 0; have e1 := hb1.frozen; (try simp at e0)))
  refine bodyPost_ret (v := .int .i64 84) (by simp [results, Tryz.results78, go_sem, e0]) rfl ⟨rfl, ?_⟩
  exact (((Fr.refl _ w).alloc _).trans hf1).setCell (.inr (by simp)) _
set_option maxHeartbeats 400000 in
theorem Write_long (b p F m cap : Nat) (st : St) (A : Option Addr) (t : List Pg) (a : Int) (s : ByteArray) (w : World) (ht : Tb w b (.slice A m cap) t) (h : MemAt w p F st) (hT : okT st.n t = true) (hs : 4096 < s.size) :
    Calls Tryz.prog 78 #[ptr p, .slice A m cap, .int .i64 a, .string s] w fun e w' => e = .returned (.int .i64 80) ∧ Fr [] w w' := by
  have Hc := Lib.hid fun w ht h => Check_ok b p F st.n m cap A t w ht h hT
  have H := Lib.hid ht
  have HM := Lib.hid h
  have d1 : decide ((4096 : Int) < (s.size : Int)) = true := by rw [decide_eq_true_iff]; omega
  clear h ht hT
  go_enter Tryz.func78, Tryz.ntmps78
  go_wp2_with (go_at_call 77; go_must ((with_reducible refine (Hc.out _ (H.out.fr ((Fr.refl [] _).alloc _) (by simp)) (HM.out.hd.fr ((Fr.refl [] _).alloc _) (by simp))).mono ?_); rintro e w1 ⟨rfl, hf1⟩; have hb1 := (Blk.new w 22 #[.int .i64 0]).fr hf1 (by simp); have e0 := hb1.cell 0; have e1 := hb1.frozen; (try simp at e0)))
  refine bodyPost_ret (v := .int .i64 80) (by simp [results, Tryz.results78, go_sem, e0]) rfl ⟨rfl, ?_⟩
  exact (((Fr.refl _ w).alloc _).trans hf1).setCell (.inr (by simp)) _
end Go.Proofs.YtbmaecdlkchkeaaGreatDoor

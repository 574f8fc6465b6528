/- The iterator over bytes at an address: its contract. The iterator over bytes at an address: its walk. -/
import Derived.RangeFuncNested
import Derived.RangeFuncBound
import Derived.RangeFuncCalls
import Derived.RangeFuncLeaves
import Derived.RangeFuncFrom
import Derived.Shelf.Abstract
import Derived.WalkKit
import Derived.OwnWalkIn
import Derived.TacticsInMore
import Derived.LoopNIn
import Derived.LoopIn
import Derived.Test.YtbmaecdlkchkeaaGreatDoorW6
import Derived.Test.YtbmaecdlkchkeaaGreatDoorRng
namespace Go.Proofs.YtbmaecdlkchkeaaGreatDoor
open Go.RowKit Go.Shelf
attribute [local go_sem] Oper.semAt_some
set_option linter.unusedVariables false
set_option maxRecDepth 100000
set_option linter.unusedSimpArgs false

def yenc (F : Nat) {N : Nat} : Yb N → Array Value
  | .ok j _ => #[.pointer (some ⟨F, j, none⟩), .int .i64 0]
  | .bad e _ => #[.pointer none, .int .i64 e]
theorem yenc_size (F : Nat) {N : Nat} (x : Yb N) : (yenc F x).size = 2 := by cases x <;> rfl
/-- What a round keeps: all that lay below n₀, and the blocks of S. -/
def KpB (n₀ : Nat) (S : List Nat) (W W' : World) : Prop := Below n₀ W W' ∧ ∀ k, k ∈ S → W'.heap[k]? = W.heap[k]?
theorem KpB.refl (n₀ : Nat) (S : List Nat) (W : World) : KpB n₀ S W W := ⟨Below.refl _ _, fun _ _ => rfl⟩
theorem kpB_t {n₀ : Nat} {S : List Nat} {A B C : World} (h : KpB n₀ S A B) (k : KpB n₀ S B C) : KpB n₀ S A C := ⟨h.1.trans k.1, fun b hb => (k.2 b hb).trans (h.2 b hb)⟩
theorem kpB_b {n₀ : Nat} {S : List Nat} {w : World} (hn : n₀ ≤ w.heap.size) (hS : ∀ k, k ∈ S → k < w.heap.size) (W : World) (l : Nat) (o o' : Obj) (hl : w.heap.size ≤ l) (h : W.heap[l]? = some o) (hc : o.isCells = false) (hw : o.isWalk = false) : KpB n₀ S W (W.putObj l o') :=
  ⟨belowK_b hn W l o o' hl h hc hw, fun k hk => World.putObj_heap_other (by have := hS k hk; omega)⟩
/-- From W to W' nothing below n₀ and nothing of S has turned: a step of Fr that turns neither. -/
theorem KpB.of_fr {n₀ : Nat} {S T : List Nat} {W W' : World} (h : Fr T W W') (hn : n₀ ≤ W.heap.size) (hT : ∀ k, k ∈ T → n₀ ≤ k ∧ k ∉ S) (hS : ∀ k, k ∈ S → k < W.heap.size) : KpB n₀ S W W' :=
  ⟨h.below hn (fun k hk => (hT k hk).1), fun k hk => h.block k (hS k hk) (fun hm => (hT k hm).2 hk)⟩

structure Bx (W : World) (kn ka kt kr km n : Nat) (a r : Int) (tv : Value) (p : Nat) : Prop where
  n_ : W.cell? ⟨kn, 0, none⟩ = some (.int .i64 n)
  a_ : W.cell? ⟨ka, 0, none⟩ = some (.int .i64 a)
  t_ : W.cell? ⟨kt, 0, none⟩ = some tv
  r_ : W.cell? ⟨kr, 0, none⟩ = some (.int .i64 r)
  m_ : W.cell? ⟨km, 0, none⟩ = some (ptr p)
theorem Bx.kp {W W' : World} {kn ka kt kr km n : Nat} {a r : Int} {tv : Value} {p : Nat} (h : Bx W kn ka kt kr km n a r tv p) (hk : ∀ k, k ∈ [kn, ka, kt, kr, km] → W'.heap[k]? = W.heap[k]?) : Bx W' kn ka kt kr km n a r tv p :=
  ⟨(World.cell?_of_block (a := ⟨kn, 0, none⟩) (hk kn (by simp))).trans h.n_, (World.cell?_of_block (a := ⟨ka, 0, none⟩) (hk ka (by simp))).trans h.a_, (World.cell?_of_block (a := ⟨kt, 0, none⟩) (hk kt (by simp))).trans h.t_, (World.cell?_of_block (a := ⟨kr, 0, none⟩) (hk kr (by simp))).trans h.r_, (World.cell?_of_block (a := ⟨km, 0, none⟩) (hk km (by simp))).trans h.m_⟩

theorem Bx.lts {W : World} {kn ka kt kr km n : Nat} {a r : Int} {tv : Value} {p : Nat} (h : Bx W kn ka kt kr km n a r tv p) : ∀ k, k ∈ [kn, ka, kt, kr, km] → k < W.heap.size := by
  intro k hk
  simp at hk
  rcases hk with rfl | rfl | rfl | rfl | rfl
  · exact World.block_lt_of_cell? W _ h.n_
  · exact World.block_lt_of_cell? W _ h.a_
  · exact World.block_lt_of_cell? W _ h.t_
  · exact World.block_lt_of_cell? W _ h.r_
  · exact World.block_lt_of_cell? W _ h.m_
set_option maxHeartbeats 1000000 in
theorem bytes_in (F : Fence) (n : Nat) (h31 : F.fn 79) (hro : F.round = none) (p m cap : Nat) (A : Option Addr) (a k r : Int) (w : World) :
    CallsIn F n Tryz.prog 79 #[ptr p, .slice A m cap, .int .i64 a, .int .i64 k, .int .i64 r] w fun e w' =>
      e = .returned (.func (.func 99) #[] #[ptr (w.heap.size + 1 + 1 + 1), ptr (w.heap.size + 1 + 1), ptr (w.heap.size + 1), ptr (w.heap.size + 1 + 1 + 1 + 1), ptr w.heap.size]) ∧
      w' = ((((w.alloc (.cells #[ptr p] 41)).alloc (.cells #[.slice A m cap] 43)).alloc (.cells #[.int .i64 a] 3)).alloc (.cells #[.int .i64 k] 3)).alloc (.cells #[.int .i64 r] 3) := by
  refine callsIn_of_wp Tryz.func79 rfl h31 ?_ hro
  simp only [Tryz.ntmps79, List.size_toArray, List.length_cons, List.length_nil, Nat.reduceAdd, Nat.reduceSub, Array.replicate_succ, Array.replicate_zero, List.push_toArray, List.append_toArray, List.nil_append, List.cons_append]
  gi_wp2
  go_ret
  exact ⟨rfl, rfl⟩
end Go.Proofs.YtbmaecdlkchkeaaGreatDoor
namespace Go.Proofs.YtbmaecdlkchkeaaGreatDoor
open Go.RowKit Go.Shelf
attribute [local go_sem] Oper.semAt_some
set_option linter.unusedVariables false
set_option maxRecDepth 100000
set_option linter.unusedSimpArgs false
theorem grown_ad (W : World) (o : Obj) (row : Option Nat) : W.grownBy (W.alloc o).drew row := by
  have h := World.grownBy_alloc W o row
  exact ⟨h.os, h.tape, h.output, h.size, h.block⟩
/-- A region that reads, and then calls: b: has the call been made? -/
structure RY (Wd : World) (Post : Bool → World → Prop) (x b : Bool) (w' : World) : Prop where
  r0 : b = false → w' = Wd
  r1 : b = true → Post x w'
theorem RY.on {Wd : World} {Post : Bool → World → Prop} {x : Bool} : RY Wd Post x false Wd := ⟨(fun _ => rfl), (fun h => by cases h)⟩
set_option maxRecDepth 100000 in
set_option maxHeartbeats 4000000 in
theorem bytes1_in (F : Fence) (nf : Nat) (h42 : F.fn 99) (hro : F.round = none) (hn : 1 ≤ nf) (l : Nat) (kn ka kt kr km n₀ n m cap b p Fb nfr : Nat) (A : Option Addr) (a r : Int) (t : List Pg)
    (hT : okT nfr t = true) (hm : m = t.length) (hn4 : n ≤ 4096) (ha : a ≤ 9223372036854775807) (J Jx : List (Yb (nfr * 256)) → World → Prop)
    (hY : ∀ pre x W, J pre W → pre.length < 4097 → YieldAt F (nf - 1) Tryz.prog l (yenc Fb x) W fun e W' =>
      (e = .returned (.bool true) ∧ J (pre ++ [x]) W' ∧ KpB n₀ [kn, ka, kt, kr, km] W W') ∨ (e = .returned (.bool false) ∧ Jx (pre ++ [x]) W'))
    (W : World) (hJ : AbidesFrom W.heap.size J) (hB : Bx W kn ka kt kr km n a r (.slice A m cap) p) (ht : Tb W b (.slice A m cap) t) (hb : b < n₀) (hd : Hd W p Fb nfr) (hp : p < n₀) (hn₀ : n₀ ≤ W.heap.size) (h0 : J [] W) :
    CallsIn F nf Tryz.prog 99 #[.func (.yield l) #[] #[], ptr kn, ptr ka, ptr kt, ptr kr, ptr km] W fun e W' => (∃ v, e = .returned v) ∧
      ((∃ ys, ys = yl (nfr * 256) t r a n ∧ J ys W') ∨ (∃ pre, pre <+: yl (nfr * 256) t r a n ∧ Jx pre W')) := by
  refine callsIn_of_wp Tryz.func99 rfl h42 ?_ hro
  simp only [Tryz.ntmps99, List.size_toArray, List.length_cons, List.length_nil, Nat.reduceAdd, Nat.reduceSub, Array.replicate_succ, Array.replicate_zero, List.push_toArray, List.append_toArray, List.nil_append, List.cons_append]
  have hm16 := okT_len hT
  have Hm := Lib.hid hm
  have HB := Lib.hid hB
  have Ht := Lib.hid ht
  have Hd' := Lib.hid hd
  have HT := Lib.hid hT
  have cn := hB.n_
  have hm16' : m ≤ 16 := by omega
  have hlts := Lib.hid hB.lts
  clear hm hB ht hd hT
  gi_wp2
  gi_loopw [10] (fun i wr => ∃ (k : Nat), k ≤ n ∧ i = .int .i64 k ∧ J (ytk (nfr * 256) t r a k) wr ∧ (∀ i, i < k → ch1 t r (a + (i : Nat)) = 0) ∧ (0 < k → 0 ≤ a) ∧ KpB n₀ [kn, ka, kt, kr, km] W wr)
    (fun i _ => n - (intOf i).toNat)
  case atStart => exact ⟨0, Nat.zero_le _, rfl, h0, fun i hi => by omega, fun h => by omega, KpB.refl _ _ _⟩
  case round =>
    obtain ⟨k, hk, rfl, hJk, hok, hpos, hkp⟩ := hrel
    have hB1 := HB.out.kp hkp.2
    have ca := hB1.a_
    have ct := hB1.t_
    have cr := hB1.r_
    have cm := hB1.m_
    have hsz := hkp.1.size
    have Hok := Lib.hid hok
    have Hkp := Lib.hid hkp
    clear hok hkp
    by_cases hlt : k < n
    · by_cases hneg : a < 0
      · have hk0 : k = 0 := by omega
        subst hk0
        have E := Lib.hid (yl_bad (N := nfr * 256) (t := t) (right := r) (a := a) hlt Hok.out (ch1_neg (by omega)) (.inl rfl))
        obtain ⟨fn, tmps, assign, body, hy, hR⟩ := hY _ (.bad 81 (.inl rfl)) _ hJk (by rw [ytk_len]; omega)
        simp only [yenc] at hy
        gi_wp2
        refine hR.mono ?_
        rintro e W3 (⟨rfl, hJ3, hk3⟩ | ⟨rfl, hJx3⟩)
        · gi_wp2
          refine bodyPost_ret (results_none rfl _ _ _) rfl ?_
          exact ⟨⟨_, rfl⟩, .inl ⟨_, E.out, hJ3⟩⟩
        · gi_wp2
          refine bodyPost_ret (results_none rfl _ _ _) rfl ?_
          exact ⟨⟨_, rfl⟩, .inr ⟨_, by rw [E.out]; exact List.prefix_refl _, hJx3⟩⟩
      · obtain ⟨a0, rfl⟩ := Int.eq_ofNat_of_zero_le (by omega : 0 ≤ a)
        have hcast : (a0 : Int) + (k : Int) = ((a0 + k : Nat) : Int) := by omega
        by_cases hfar : m * 256 ≤ a0 + k
        · have E := Lib.hid (yl_bad (N := nfr * 256) (t := t) (right := r) (a := a0) hlt Hok.out (by rw [hcast]; exact ch1_far (by have := Hm.out; omega)) (.inl rfl))
          have d1 : (m : Int) * 256 - (k : Int) ≤ (a0 : Int) := by omega
          clear hcast hneg
          obtain ⟨fn, tmps, assign, body, hy, hR⟩ := hY _ (.bad 81 (.inl rfl)) _ hJk (by rw [ytk_len]; omega)
          simp only [yenc] at hy
          gi_wp2
          refine hR.mono ?_
          rintro e W3 (⟨rfl, hJ3, hk3⟩ | ⟨rfl, hJx3⟩)
          · gi_wp2
            refine bodyPost_ret (results_none rfl _ _ _) rfl ?_
            exact ⟨⟨_, rfl⟩, .inl ⟨_, E.out, hJ3⟩⟩
          · gi_wp2
            refine bodyPost_ret (results_none rfl _ _ _) rfl ?_
            exact ⟨⟨_, rfl⟩, .inr ⟨_, by rw [E.out]; exact List.prefix_refl _, hJx3⟩⟩
        · obtain ⟨⟨f, q⟩, hx⟩ : ∃ x, t[(a0 + k) / 256]? = some x := ⟨_, List.getElem?_eq_getElem (by have := Hm.out; omega)⟩
          obtain ⟨off, hA, hbl, c0, c1⟩ := Ht.out.at_ hx
          subst hA
          have c0 := (Hkp.out.1.cell (p := ⟨b, off + (a0 + k) / 256 * 2, none⟩) hb).trans c0
          have c1 := (Hkp.out.1.cell (p := ⟨b, off + (a0 + k) / 256 * 2 + 1, none⟩) hb).trans c1
          have hch := ch1_at (right := r) hx
          have hloc := loc_at hx
          simp only at c0 c1 hch hloc
          have d1 : ¬ (m : Int) * 256 - (k : Int) ≤ (a0 : Int) := by omega
          have d2 : ((a0 : Int) + (k : Int)) / 256 < (m : Int) := by omega
          have d3 : (0 : Int) ≤ ((a0 : Int) + (k : Int)) / 256 := by omega
          have d4 : (a0 : Int) + (k : Int) ≤ 4096 := by omega
          have hJa := hJ _ wr (wr.alloc (.cells #[.int .i64 f, .int .i64 q] 82)) none hJk (World.grownBy_alloc wr _ none) (fun r e => by cases e)
          have hxf := okT_at HT.out hx
          simp only at hxf
          have Hxf := Lib.hid hxf
          clear hxf
          have hkr : kr < wr.heap.size := Nat.lt_of_lt_of_le (hlts.out kr (by simp)) hsz
          have hka : ka < wr.heap.size := Nat.lt_of_lt_of_le (hlts.out ka (by simp)) hsz
          have hkm : km < wr.heap.size := Nat.lt_of_lt_of_le (hlts.out km (by simp)) hsz
          have hpw : p < wr.heap.size := by omega
          rw [← hcast] at hch hloc
          have hbw : b < W.heap.size := by omega
          clear hx hfar hcast hneg
          by_cases hf : f < 0
          · rw [if_pos hf] at hch
            have E := Lib.hid (yl_bad (N := nfr * 256) (t := t) (right := r) (a := a0) hlt Hok.out hch (.inl rfl))
            clear hch hloc
            obtain ⟨fn, tmps, assign, body, hy, hR⟩ := hY _ (.bad 81 (.inl rfl)) _ hJa (by rw [ytk_len]; omega)
            simp only [yenc] at hy
            gi_wp2
            refine hR.mono ?_
            rintro e W3 (⟨rfl, hJ3, hk3⟩ | ⟨rfl, hJx3⟩)
            · gi_wp2
              refine bodyPost_ret (results_none rfl _ _ _) rfl ?_
              exact ⟨⟨_, rfl⟩, .inl ⟨_, E.out, hJ3⟩⟩
            · gi_wp2
              refine bodyPost_ret (results_none rfl _ _ _) rfl ?_
              exact ⟨⟨_, rfl⟩, .inr ⟨_, by rw [E.out]; exact List.prefix_refl _, hJx3⟩⟩
          · rw [if_neg hf] at hch
            cases hq : (bits .and .i64 q r == 0) with
            | true =>
              rw [if_pos (by simpa using hq)] at hch
              have E := Lib.hid (yl_bad (N := nfr * 256) (t := t) (right := r) (a := a0) hlt Hok.out hch (.inr rfl))
              clear hch hloc
              obtain ⟨fn, tmps, assign, body, hy, hR⟩ := hY _ (.bad 82 (.inr rfl)) _ hJa (by rw [ytk_len]; omega)
              simp only [yenc] at hy
              gi_wp2
              refine hR.mono ?_
              rintro e W3 (⟨rfl, hJ3, hk3⟩ | ⟨rfl, hJx3⟩)
              · gi_wp2
                refine bodyPost_ret (results_none rfl _ _ _) rfl ?_
                exact ⟨⟨_, rfl⟩, .inl ⟨_, E.out, hJ3⟩⟩
              · gi_wp2
                refine bodyPost_ret (results_none rfl _ _ _) rfl ?_
                exact ⟨⟨_, rfl⟩, .inr ⟨_, by rw [E.out]; exact List.prefix_refl _, hJx3⟩⟩
            | false =>
              rw [if_neg (by simpa using hq)] at hch
              obtain ⟨f0, rfl⟩ := Int.eq_ofNat_of_zero_le (by omega : 0 ≤ f)
              rw [Int.toNat_natCast] at hloc
              have Hch := Lib.hid hch
              have Hloc := Lib.hid hloc
              obtain ⟨cp, cpp, -, -⟩ := Hd'.out.cell
              have cpp := (Hkp.out.1.cell (p := ⟨p, 0, none⟩) hp).trans cpp
              have hll := loc_lt HT.out hch
              rw [hloc] at hll
              clear hch hloc
              gi_wp2
              have hfn : (f0 : Int) < (nfr : Int) := Hxf.out.2.1
              have hw1 : IntKind.i64.wrap ((a0 : Int) + (k : Int)) = (a0 : Int) + (k : Int) := IntWalk.i64_in _ (by omega)
              have hw2 : ((a0 : Int) + (k : Int)).tmod 256 = ((a0 : Int) + (k : Int)) % 256 := Int.tmod_eq_emod_of_nonneg (by omega)
              have hw3 : IntKind.i64.wrap (((a0 : Int) + (k : Int)) % 256) = ((a0 : Int) + (k : Int)) % 256 := IntWalk.i64_in _ (by omega)
              have hw4 : (((a0 : Int) + (k : Int)) % 256).toNat = (a0 + k) % 256 := by omega
              have hw5 : (0 : Int) ≤ ((a0 : Int) + (k : Int)) % 256 := by omega
              have hw6 : ((a0 : Int) + (k : Int)) % 256 < 256 := by omega
              have cm2 : (wr.alloc (.cells #[.int .i64 f0, .int .i64 q] 82)).drew.cell? ⟨km, 0, none⟩ = some (ptr p) := ((Fr.refl [] wr).alloc _).drew.cell_some cm (by simp)
              have ca2 : (wr.alloc (.cells #[.int .i64 f0, .int .i64 q] 82)).drew.cell? ⟨ka, 0, none⟩ = some (.int .i64 a0) := ((Fr.refl [] wr).alloc _).drew.cell_some ca (by simp)
              have cp2 : (wr.alloc (.cells #[.int .i64 f0, .int .i64 q] 82)).drew.cell? ⟨p, 0, none⟩ = some (.slice (some ⟨Fb, 0, none⟩) nfr cp) := ((Fr.refl [] wr).alloc _).drew.cell_some cpp (by simp)
              have cf2 : (wr.alloc (.cells #[.int .i64 f0, .int .i64 q] 82)).drew.cell? ⟨wr.heap.size, 0, none⟩ = some (.int .i64 f0) := (Blk.new wr 82 #[.int .i64 f0, .int .i64 q]).cell 0
              have hJd := hJ _ wr (wr.alloc (.cells #[.int .i64 f0, .int .i64 q] 82)).drew none hJk (grown_ad wr _ none) (fun r e => by cases e)
              have hkpd : KpB n₀ [kn, ka, kt, kr, km] wr (wr.alloc (.cells #[.int .i64 f0, .int .i64 q] 82)).drew := KpB.of_fr ((Fr.refl [] wr).alloc _).drew (by omega) (by simp) (fun k hk => Nat.lt_of_lt_of_le (hlts.out k hk) hsz)
              generalize hWd : (wr.alloc (.cells #[.int .i64 f0, .int .i64 q] 82)).drew = Wd at *
              have HWd := Lib.hid hWd
              clear hWd
              obtain ⟨fn, tmps, assign, body, hy, hR⟩ := hY _ (.ok (f0 * 256 + (a0 + k) % 256) hll) _ hJd (by rw [ytk_len]; omega)
              simp only [yenc] at hy
              obtain ⟨Post, hPost⟩ : ∃ Post : Bool → World → Prop, Post = fun xb w' => (xb = true ∧ J (ytk (nfr * 256) t r a0 k ++ [.ok (f0 * 256 + (a0 + k) % 256) hll]) w' ∧ KpB n₀ [kn, ka, kt, kr, km] Wd w') ∨ (xb = false ∧ Jx (ytk (nfr * 256) t r a0 k ++ [.ok (f0 * 256 + (a0 + k) % 256) hll]) w') := ⟨_, rfl⟩
              have HPost := Lib.hid hPost
              clear hPost
--REGION
              have hm' : Tryz.prog.follows .mixedOrders = true := by kernel_rfl
              refine wpIn_region_inv2 hm' (by kernel_rfl) (fun L' a w' => ∃ xb : Bool, a = { tmps := #[.func (.yield l) #[] #[], ptr kn, ptr ka, ptr kt, ptr kr, ptr km, undef, .int .i64 k, .pointer (some ⟨wr.heap.size, 0, none⟩), .int .i64 n, .int .i64 k, .bool true, .int .i64 k, .int .i64 a0, .bool (decide ((a0 : Int) < 0)), .bool (decide ((a0 : Int) < 0)), .int .i64 a0, .slice (some ⟨b, off, none⟩) m cap, .int .i64 m, .int .i64 ((m : Int) * 256), .int .i64 k, .int .i64 ((m : Int) * 256 - k), .bool false, .bool (decide ((a0 : Int) < 0)), u24, u25, .slice (some ⟨b, off, none⟩) m cap, .int .i64 a0, .int .i64 k, .int .i64 ((a0 : Int) + k), .int .i64 (((a0 : Int) + k) / 256), .pointer (some ⟨b, off + (a0 + k) / 256 * 2, none⟩), .agg #[.int .i64 f0, .int .i64 q], .pointer (some ⟨wr.heap.size, 0, none⟩), .int .i64 f0, .bool false, u36, u37, .pointer (some ⟨wr.heap.size, 1, none⟩), .int .i64 q, .int .i64 r, .int .i64 (bits .and .i64 q r), .bool false, u43, u44, bif L'.getD 0 false then .func (.yield l) #[] #[] else u45, bif L'.getD 1 false then ptr p else u46, bif L'.getD 2 false then ptr p else u47, bif L'.getD 3 false then ptr p else u48, bif L'.getD 4 false then .slice (some ⟨Fb, 0, none⟩) nfr cp else u49, bif L'.getD 5 false then .pointer (some ⟨wr.heap.size, 0, none⟩) else u50, bif L'.getD 6 false then .int .i64 f0 else u51, bif L'.getD 7 false then .int .i64 a0 else u52, bif L'.getD 8 false then .int .i64 k else u53, bif L'.getD 9 false then .int .i64 ((a0 : Int) + k) else u54, bif L'.getD 10 false then .int .i64 (((a0 : Int) + k) % 256) else u55, bif L'.getD 11 false then .pointer (some ⟨Fb, f0 * 256, none⟩) else u56, bif L'.getD 12 false then .pointer (some ⟨Fb, f0 * 256 + (a0 + k) % 256, none⟩) else u57, bif L'.getD 13 false then .bool xb else u58, bif L'.getD 14 false then .bool (!xb) else u59, u60], defers := [] } ∧ RY Wd Post xb (L'.getD 13 false) w') ⟨false, rfl, (fun _ => HWd.out), (fun h => by cases h)⟩ ?_ ?_
              · rintro ⟨L'⟩ _ w' i o hs ho hf hp hc ⟨xb, rfl, hR⟩
                match L', hs with
                | [b0, b1, b2, b3, b4, b5, b6, b7, b8, b9, b10, b11, b12, b13, b14], _ =>
                have R : RY Wd Post xb b13 w' := hR
                clear hR
                match i, ho with
                | 0, ho =>
                  injection ho with ho
                  subst ho
                  have e13 : b13 = false := hc.off (i := 13) (j := 0) (by kernel_rfl) hf
                  clear hc
                  have ew := R.r0 e13
                  subst ew
                  subst e13
                  simp [Region.binds] at hf hp
                  refine wpOpIn_step rfl (fun K' hK' => ?_)
                  go_simp
                  exact hK' _ _ ⟨xb, by simp [hf, hp, hw1, hw2, hw3, hw4], RY.on⟩
                | 1, ho =>
                  injection ho with ho
                  subst ho
                  have e13 : b13 = false := hc.off (i := 13) (j := 1) (by kernel_rfl) hf
                  clear hc
                  have ew := R.r0 e13
                  subst ew
                  subst e13
                  simp [Region.binds] at hf hp
                  refine wpOpIn_step rfl (fun K' hK' => ?_)
                  go_simp
                  exact hK' _ _ ⟨xb, by simp [hf, hp, hw1, hw2, hw3, hw4], RY.on⟩
                | 2, ho =>
                  injection ho with ho
                  subst ho
                  have e13 : b13 = false := hc.off (i := 13) (j := 2) (by kernel_rfl) hf
                  clear hc
                  have ew := R.r0 e13
                  subst ew
                  subst e13
                  simp [Region.binds] at hf hp
                  refine wpOpIn_step rfl (fun K' hK' => ?_)
                  go_simp
                  exact hK' _ _ ⟨xb, by simp [hf, hp, hw1, hw2, hw3, hw4], RY.on⟩
                | 3, ho =>
                  injection ho with ho
                  subst ho
                  have e13 : b13 = false := hc.off (i := 13) (j := 3) (by kernel_rfl) hf
                  clear hc
                  have ew := R.r0 e13
                  subst ew
                  subst e13
                  simp [Region.binds] at hf hp
                  refine wpOpIn_step rfl (fun K' hK' => ?_)
                  go_simp
                  exact hK' _ _ ⟨xb, by simp [hf, hp, hw1, hw2, hw3, hw4], RY.on⟩
                | 4, ho =>
                  injection ho with ho
                  subst ho
                  have e13 : b13 = false := hc.off (i := 13) (j := 4) (by kernel_rfl) hf
                  clear hc
                  have ew := R.r0 e13
                  subst ew
                  subst e13
                  simp [Region.binds] at hf hp
                  refine wpOpIn_step rfl (fun K' hK' => ?_)
                  go_simp
                  exact hK' _ _ ⟨xb, by simp [hf, hp, hw1, hw2, hw3, hw4], RY.on⟩
                | 5, ho =>
                  injection ho with ho
                  subst ho
                  have e13 : b13 = false := hc.off (i := 13) (j := 5) (by kernel_rfl) hf
                  clear hc
                  have ew := R.r0 e13
                  subst ew
                  subst e13
                  simp [Region.binds] at hf hp
                  refine wpOpIn_step rfl (fun K' hK' => ?_)
                  go_simp
                  exact hK' _ _ ⟨xb, by simp [hf, hp, hw1, hw2, hw3, hw4], RY.on⟩
                | 6, ho =>
                  injection ho with ho
                  subst ho
                  have e13 : b13 = false := hc.off (i := 13) (j := 6) (by kernel_rfl) hf
                  clear hc
                  have ew := R.r0 e13
                  subst ew
                  subst e13
                  simp [Region.binds] at hf hp
                  refine wpOpIn_step rfl (fun K' hK' => ?_)
                  go_simp
                  exact hK' _ _ ⟨xb, by simp [hf, hp, hw1, hw2, hw3, hw4], RY.on⟩
                | 7, ho =>
                  injection ho with ho
                  subst ho
                  have e13 : b13 = false := hc.off (i := 13) (j := 7) (by kernel_rfl) hf
                  clear hc
                  have ew := R.r0 e13
                  subst ew
                  subst e13
                  simp [Region.binds] at hf hp
                  refine wpOpIn_step rfl (fun K' hK' => ?_)
                  go_simp
                  exact hK' _ _ ⟨xb, by simp [hf, hp, hw1, hw2, hw3, hw4], RY.on⟩
                | 8, ho =>
                  injection ho with ho
                  subst ho
                  have e13 : b13 = false := hc.off (i := 13) (j := 8) (by kernel_rfl) hf
                  clear hc
                  have ew := R.r0 e13
                  subst ew
                  subst e13
                  simp [Region.binds] at hf hp
                  refine wpOpIn_step rfl (fun K' hK' => ?_)
                  go_simp
                  exact hK' _ _ ⟨xb, by simp [hf, hp, hw1, hw2, hw3, hw4], RY.on⟩
                | 9, ho =>
                  injection ho with ho
                  subst ho
                  have e13 : b13 = false := hc.off (i := 13) (j := 9) (by kernel_rfl) hf
                  clear hc
                  have ew := R.r0 e13
                  subst ew
                  subst e13
                  simp [Region.binds] at hf hp
                  refine wpOpIn_step rfl (fun K' hK' => ?_)
                  go_simp
                  exact hK' _ _ ⟨xb, by simp [hf, hp, hw1, hw2, hw3, hw4], RY.on⟩
                | 10, ho =>
                  injection ho with ho
                  subst ho
                  have e13 : b13 = false := hc.off (i := 13) (j := 10) (by kernel_rfl) hf
                  clear hc
                  have ew := R.r0 e13
                  subst ew
                  subst e13
                  simp [Region.binds] at hf hp
                  refine wpOpIn_step rfl (fun K' hK' => ?_)
                  go_simp
                  exact hK' _ _ ⟨xb, by simp [hf, hp, hw1, hw2, hw3, hw4], RY.on⟩
                | 11, ho =>
                  injection ho with ho
                  subst ho
                  have e13 : b13 = false := hc.off (i := 13) (j := 11) (by kernel_rfl) hf
                  clear hc
                  have ew := R.r0 e13
                  subst ew
                  subst e13
                  simp [Region.binds] at hf hp
                  refine wpOpIn_step rfl (fun K' hK' => ?_)
                  go_simp
                  exact hK' _ _ ⟨xb, by simp [hf, hp, hw1, hw2, hw3, hw4], RY.on⟩
                | 12, ho =>
                  injection ho with ho
                  subst ho
                  have e13 : b13 = false := hc.off (i := 13) (j := 12) (by kernel_rfl) hf
                  clear hc
                  have ew := R.r0 e13
                  subst ew
                  subst e13
                  simp [Region.binds] at hf hp
                  refine wpOpIn_step rfl (fun K' hK' => ?_)
                  go_simp
                  exact hK' _ _ ⟨xb, by simp [hf, hp, hw1, hw2, hw3, hw4], RY.on⟩
                | 13, ho =>
                  injection ho with ho
                  subst ho
                  have e14 : b14 = false := hc.off (i := 14) (j := 13) (by kernel_rfl) hf
                  subst e14
                  clear hc
                  simp [Region.binds] at hf hp
                  have ew := R.r0 hf
                  subst ew
                  refine wpOpIn_step rfl (fun K' hK' => ?_)
                  go_simp
                  refine hR.mono ?_
                  rintro e W3 (⟨rfl, hJ3, hk3⟩ | ⟨rfl, hJx3⟩)
                  · exact hK' _ _ ⟨true, by simp [hf, hp], (fun h => by cases h), (fun _ => by rw [HPost.out]; exact .inl ⟨rfl, hJ3, hk3⟩)⟩
                  · exact hK' _ _ ⟨false, by simp [hf, hp], (fun h => by cases h), (fun _ => by rw [HPost.out]; exact .inr ⟨rfl, hJx3⟩)⟩
                | 14, ho =>
                  injection ho with ho
                  subst ho
                  clear hc
                  simp [Region.binds] at hf hp
                  refine wpOpIn_step rfl (fun K' hK' => ?_)
                  go_simp
                  exact hK' _ _ ⟨xb, by simp [hf, hp], by simpa using R⟩
                | i + 15, ho => simp at ho
              · rintro _ w' ⟨xb, rfl, hR⟩
                have R := hR.r1 rfl
                rw [HPost.out] at R
                rcases R with ⟨rfl, hJ3, hk3⟩ | ⟨rfl, hJx3⟩
                · have E := Lib.hid (yl_ok (N := nfr * 256) Hch.out (by rw [Hloc.out]; exact hll))
                  have HJ3 := Lib.hid hJ3
                  have HK3 := Lib.hid (kpB_t Hkp.out (kpB_t hkpd hk3))
                  clear hJ3 hk3 hR
                  gi_wp2
                  go_roundw
                  case rel => refine ⟨k + 1, by omega, by go_num, ?_, ok_succ Hok.out Hch.out, (fun _ => by omega), HK3.out⟩; rw [← E.out]; have := HJ3.out; simp only [Hloc.out]; exact this
                  case measure => simp [intOf]; omega
                · have E := Lib.hid (yl_ok (N := nfr * 256) Hch.out (by rw [Hloc.out]; exact hll))
                  have HX := Lib.hid hJx3
                  clear hJx3 hR
                  gi_wp2
                  refine bodyPost_ret (results_none rfl _ _ _) rfl ?_
                  refine ⟨⟨_, rfl⟩, .inr ⟨ytk (nfr * 256) t r a0 (k + 1), yl_pre hlt (ok_succ Hok.out Hch.out), ?_⟩⟩
                  rw [← E.out]
                  have := HX.out
                  simp only [Hloc.out]
                  exact this
--END
    · have hkn : k = n := by omega
      subst hkn
      gi_wp2
      go_end0
      refine ⟨⟨_, rfl⟩, .inl ⟨_, rfl, ?_⟩⟩
      have e : yl (nfr * 256) t r a k = ytk (nfr * 256) t r a k := by
        unfold yl
        rw [if_pos (good_full Hok.out)]
      rw [e]
      exact hJk
end Go.Proofs.YtbmaecdlkchkeaaGreatDoor

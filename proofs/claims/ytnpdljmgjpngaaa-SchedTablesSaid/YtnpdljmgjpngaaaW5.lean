/- ahead, Ticks: the program's. -/
import Derived.Test.YtnpdljmgjpngaaaW4
namespace Go.Proofs.Ytnpdljmgjpngaaa
open Go.RowKit Go.Shelf
attribute [local go_sem] Oper.semAt_some
set_option linter.unusedVariables false
set_option linter.unusedSimpArgs false

theorem size_set (W : World) (p : Addr) (v : Value) : (W.setCell p v).heap.size = W.heap.size := by simp [World.setCell]
/-- Is a span of a kind and an index? -/
def isOf (K I : Int) (s : Sp) : Bool := s.K == K && s.I == I
/-- How many ticks those that have come have, that are. -/
def ownP (K I : Int) (pre : List Sp) : Int := (pre.map fun s => if isOf K I s then s.T else 0).sum
/-- And how many of them lie ahead of place r. -/
def partP (K I r : Int) (pre : List Sp) : Int := (pre.map fun s => if isOf K I s then min (max 0 (r - s.fr)) s.T else 0).sum
theorem ownP_snoc (K I : Int) (pre : List Sp) (x : Sp) : ownP K I (pre ++ [x]) = ownP K I pre + if isOf K I x then x.T else 0 := by simp [ownP]
theorem partP_snoc (K I r : Int) (pre : List Sp) (x : Sp) : partP K I r (pre ++ [x]) = partP K I r pre + if isOf K I x then min (max 0 (r - x.fr)) x.T else 0 := by simp [partP]
theorem ownP_bd (K I : Int) (pre : List Sp) : 0 ≤ ownP K I pre ∧ ownP K I pre ≤ 255 * pre.length := by
  induction pre with
  | nil => simp [ownP]
  | cons s pre ih =>
    have hs := s.h
    simp only [ownP, List.map_cons, List.sum_cons, List.length_cons] at ih ⊢
    split <;> omega
theorem partP_bd (K I r : Int) (pre : List Sp) : 0 ≤ partP K I r pre ∧ partP K I r pre ≤ 255 * pre.length := by
  induction pre with
  | nil => simp [partP]
  | cons s pre ih =>
    have hs := s.h
    simp only [partP, List.map_cons, List.sum_cons, List.length_cons] at ih ⊢
    split <;> omega
/-- What ahead tells. -/
def aheadT (l : List Win) (hok : okL l = true) (K I t : Int) : Int := t / tot l l.length * ownP K I (spL l hok) + partP K I (t % tot l l.length) (spL l hok)

set_option maxRecDepth 100000 in
set_option maxHeartbeats 4000000 in
theorem ahead_any (A : Option Addr) (n cap : Nat) (l : List Win) (w : World) (K I t : Int) (h : WinsIn w (.slice A n cap) l) (hn : n ≤ 4611686018427387904) (hok : okL l = true) (h1 : 0 ≤ t) (h2 : t ≤ 1099511627776) :
    Calls Try.prog 41 #[.slice A n cap, .int .i64 K, .int .i64 I, .int .i64 t] w fun e w' => e = .returned (.int .i64 (aheadT l hok K I t)) ∧ Fr [] w w' := by
  unfold aheadT
  have hL := tot_bd hok l.length (Nat.le_refl _)
  have hl := okL_len hok
  have Hl := Lib.hid fun w h => length_ok A n cap l w h hok
  have H := Lib.hid h
  have Hlen := Lib.hid h.len
  have hA := h.addr hl.1
  clear h
  have hL0 : 0 < tot l l.length := by omega
  have hL1 : tot l l.length ≤ 16320 := by omega
  have HL : ∃ L, tot l l.length = L := ⟨_, rfl⟩
  obtain ⟨L, hLL⟩ := HL
  rw [hLL] at hL0 hL1 Hl ⊢
  clear hLL hL
  have r0 := Int.emod_nonneg t (by omega : L ≠ 0)
  have r1 := Int.emod_lt_of_pos t hL0
  refine (callsIn_wide (n := 3)).1 ?_
  refine callsIn_of_wp_marks Try.func41 rfl trivial (wpIn_wide.2 ?_)
  simp only [Try.ntmps41, List.size_toArray, List.length_cons, List.length_nil, Nat.reduceAdd, Nat.reduceSub, Array.replicate_succ, Array.replicate_zero, List.push_toArray, List.append_toArray, List.nil_append, List.cons_append]
  go_wp2_with (first
    | (go_at_call 32; go_must ((with_reducible refine (Hl.out _ (H.out.fr ((((Fr.refl _ _).alloc _).alloc _).alloc _))).mono ?_); rintro e w1 ⟨rfl, hf1⟩; have hz1 := hf1.size))
    | (go_at_call 39; go_must ((with_reducible refine (spans_any _ _ _ _).mono ?_); rintro e w3 ⟨rfl, rfl⟩))
    | fail)
  simp only [World.size_alloc] at hz1
  have bK0 := (((Blk.new w 3 #[.int .i64 K]).alloc (.cells #[.int .i64 I] 3)).alloc (.cells #[.int .i64 t] 3)).fr hf1 (by simp)
  have bI0 := ((Blk.new (w.alloc (.cells #[.int .i64 K] 3)) 3 #[.int .i64 I]).alloc (.cells #[.int .i64 t] 3)).fr hf1 (by simp)
  have bT0 := (Blk.new ((w.alloc (.cells #[.int .i64 K] 3)).alloc (.cells #[.int .i64 I] 3)) 3 #[.int .i64 t]).fr hf1 (by simp)
  have hf0 : Fr [] w w1 := ((((Fr.refl _ w).alloc _).alloc _).alloc _).trans hf1
  have bL0 := ((Blk.new w1 3 #[.int .i64 L]).alloc (.cells #[.int .i64 0] 3)).alloc (.cells #[.int .i64 0] 3)
  have bO0 := (Blk.new (w1.alloc (.cells #[.int .i64 L] 3)) 3 #[.int .i64 0]).alloc (.cells #[.int .i64 0] 3)
  have bP0 := Blk.new ((w1.alloc (.cells #[.int .i64 L] 3)).alloc (.cells #[.int .i64 0] 3)) 3 #[.int .i64 0]
  have bS0 := (Blk.new (((w1.alloc (.cells #[.int .i64 L] 3)).alloc (.cells #[.int .i64 0] 3)).alloc (.cells #[.int .i64 0] 3)) 22 #[.slice A n cap]).cell 0
  replace bK0 := (((bK0.alloc (.cells #[.int .i64 L] 3)).alloc (.cells #[.int .i64 0] 3)).alloc (.cells #[.int .i64 0] 3)).alloc (.cells #[.slice A n cap] 22)
  replace bI0 := (((bI0.alloc (.cells #[.int .i64 L] 3)).alloc (.cells #[.int .i64 0] 3)).alloc (.cells #[.int .i64 0] 3)).alloc (.cells #[.slice A n cap] 22)
  replace bT0 := (((bT0.alloc (.cells #[.int .i64 L] 3)).alloc (.cells #[.int .i64 0] 3)).alloc (.cells #[.int .i64 0] 3)).alloc (.cells #[.slice A n cap] 22)
  replace bL0 := bL0.alloc (.cells #[.slice A n cap] 22)
  replace bO0 := bO0.alloc (.cells #[.slice A n cap] 22)
  replace bP0 := bP0.alloc (.cells #[.slice A n cap] 22)
  replace hf0 := (((hf0.alloc (.cells #[.int .i64 L] 3)).alloc (.cells #[.int .i64 0] 3)).alloc (.cells #[.int .i64 0] 3)).alloc (.cells #[.slice A n cap] 22)
  have hsz : ((((w1.alloc (.cells #[.int .i64 L] 3)).alloc (.cells #[.int .i64 0] 3)).alloc (.cells #[.int .i64 0] 3)).alloc (.cells #[.slice A n cap] 22)).heap.size = w1.heap.size + 4 := by simp
  obtain ⟨W0, hW0⟩ : ∃ W0, (((w1.alloc (.cells #[.int .i64 L] 3)).alloc (.cells #[.int .i64 0] 3)).alloc (.cells #[.int .i64 0] 3)).alloc (.cells #[.slice A n cap] 22) = W0 := ⟨_, rfl⟩
  rw [hW0] at bK0 bI0 bT0 bL0 bO0 bP0 bS0 hf0 hsz ⊢
  clear hW0 hf1
  simp only [World.size_alloc] at bI0 bT0 bO0 bP0 bS0
  generalize w1.heap.size = s1 at *
  refine (wpIn_wide (n := 3)).1 ?_
  refine wpIn_rangeFunc_ownH rfl (by omega) (gf := 47) (lb := #[.pointer (some ⟨s1 + 1 + 1 + 1, 0, none⟩)]) rfl trivial (enters_of Try.func47 (by kernel_rfl) rfl)
    (spans_stops Fence.wide (3 - 1) trivial rfl (by omega) (s1 + 1 + 1 + 1) w.heap.size (s1 + 4) n cap A l hok Hlen.out W0 (by omega) (by omega) (by omega) bS0 (H.out.fr hf0) hA) kpS_t (kpS_b (by omega)) (Below.refl _ _) (fun _ => rfl)
    (fun pre W => (((((((Blk W w.heap.size 3 #[.int .i64 K] ∧ Blk W (w.heap.size + 1) 3 #[.int .i64 I]) ∧ Blk W (w.heap.size + 1 + 1) 3 #[.int .i64 t]) ∧ Blk W s1 3 #[.int .i64 L]) ∧ Blk W (s1 + 1) 3 #[.int .i64 (ownP K I pre)]) ∧ Blk W (s1 + 1 + 1) 3 #[.int .i64 (partP K I (t % L) pre)]) ∧ Fr [] w W) ∧ s1 + 4 ≤ W.heap.size))
    (fun _ _ _ => False)
    (OwnFrom.and (OwnFrom.and (OwnFrom.and (OwnFrom.and (OwnFrom.and (OwnFrom.and (OwnFrom.and (ownFrom_blk _ _ _ _) (ownFrom_blk _ _ _ _)) (ownFrom_blk _ _ _ _)) (ownFrom_blk _ _ _ _)) (ownFrom_blk _ _ _ _)) (ownFrom_blk _ _ _ _)) (ownFrom_fr (by omega))) (ownFrom_size _ _))
    (fun _ _ _ _ _ hs _ _ => hs)
    ⟨⟨⟨⟨⟨⟨⟨bK0, bI0⟩, bT0⟩, bL0⟩, bO0⟩, bP0⟩, hf0⟩, by omega⟩
    (fun x a' W => ∃ Bx, s1 + 4 ≤ Bx ∧ Blk W Bx 73 #[.int .i64 x.num, .int .i64 x.fr, .int .i64 x.to, .int .i64 x.K, .int .i64 x.I, .int .i64 x.T] ∧ a' = { tmps := #[.slice A n cap, .int .i64 K, .int .i64 I, .int .i64 t, undef, .pointer (some ⟨w.heap.size, 0, none⟩), .pointer (some ⟨w.heap.size + 1, 0, none⟩), .pointer (some ⟨w.heap.size + 1 + 1, 0, none⟩), .int .i64 0, .pointer (some ⟨s1, 0, none⟩), .pointer (some ⟨s1 + 1, 0, none⟩), .pointer (some ⟨s1 + 1 + 1, 0, none⟩), .pointer (some ⟨Bx, 0, none⟩), .slice A n cap, .int .i64 L, .slice A n cap, .func (.func 47) #[] #[.pointer (some ⟨s1 + 1 + 1 + 1, 0, none⟩)], .agg #[.int .i64 x.num, .int .i64 x.fr, .int .i64 x.to, .int .i64 x.K, .int .i64 x.I, .int .i64 x.T], undef, undef, undef, undef, undef, undef, undef, undef, undef, undef, undef, undef, undef, undef, undef, undef, undef, undef, undef, undef, undef, undef, undef, undef, undef, undef, undef, undef, undef, undef, undef, undef, undef, undef, undef, undef, undef], defers := [] })
    (fun x a' _ X Y row hs hg hr => by obtain ⟨Bx, e1, e2, e3⟩ := hs; exact ⟨Bx, e1, ownFrom_blk (β := Unit) _ Bx 73 (fun _ => _) () X Y row e2 hg hr, e3⟩)
    ?assign ?body ?done ?stop
  case assign =>
    rintro l' pre x W K' ⟨⟨⟨⟨⟨⟨⟨bK, bI⟩, bT⟩, bL⟩, bO⟩, bP⟩, hfr⟩, hs1⟩ hK
    unfold Sp.enc
    gi_wp2
    exact hK _ _ ((KeepsOthers.alloc _ _).from _) ((KpS.refl _ _ W).alloc (by omega) _) ⟨⟨⟨⟨⟨⟨⟨bK.alloc _, bI.alloc _⟩, bT.alloc _⟩, bL.alloc _⟩, bO.alloc _⟩, bP.alloc _⟩, hfr.alloc _⟩, by simp; omega⟩ ⟨W.heap.size, by omega, Blk.new W 73 _, rfl⟩
  case body =>
    rintro l' pre x a' W hl' ⟨r, hr⟩ ⟨⟨⟨⟨⟨⟨⟨bK, bI⟩, bT⟩, bL⟩, bO⟩, bP⟩, hfr⟩, hs1⟩ ⟨Bx, hBx, bX, rfl⟩ hlt
    have eK := bK.cell 0
    have eI := bI.cell 0
    have et := bT.cell 0
    have eL := bL.cell 0
    have eO := bO.cell 0
    have eP := bP.cell 0
    have fO := bO.frozen 0
    have fP := bP.frozen 0
    have e1 := bX.cell 1
    have e3 := bX.cell 3
    have e4 := bX.cell 4
    have e5 := bX.cell 5
    simp at eK eI et eL eO eP e1 e3 e4 e5
    obtain ⟨xh0, xh1, xh2, xh3, xh4, xh5, xh6, xh7⟩ := x.h
    have hm : Try.prog.follows .mixedOrders = true := by kernel_rfl
    have ob := ownP_bd K I pre
    have pb := partP_bd K I (t % L) pre
    have hpl : pre.length ≤ 64 := by omega
    by_cases hcK : x.K = K
    · by_cases hcI : x.I = I
      · have hk1 : (x.K == K) = true := by simp [hcK]
        have hk2 : (x.I == I) = true := by simp [hcI]
        clear hcK hcI
        have Hi : Hid (isOf K I x = true) := Lib.hid (by simp [isOf, hk1, hk2])
        gi_wp2
        have bO1 := bO.set_ 0 (.int .i64 (ownP K I pre + x.T))
        have bP1 := bP.far (p := ⟨s1 + 1, 0, none⟩) (by show s1 + 1 + 1 ≠ s1 + 1; omega) (.int .i64 (ownP K I pre + x.T))
        have bK1 := bK.far (p := ⟨s1 + 1, 0, none⟩) (by show w.heap.size ≠ s1 + 1; omega) (.int .i64 (ownP K I pre + x.T))
        have bI1 := bI.far (p := ⟨s1 + 1, 0, none⟩) (by show w.heap.size + 1 ≠ s1 + 1; omega) (.int .i64 (ownP K I pre + x.T))
        have bT1 := bT.far (p := ⟨s1 + 1, 0, none⟩) (by show w.heap.size + 1 + 1 ≠ s1 + 1; omega) (.int .i64 (ownP K I pre + x.T))
        have bL1 := bL.far (p := ⟨s1 + 1, 0, none⟩) (by show s1 ≠ s1 + 1; omega) (.int .i64 (ownP K I pre + x.T))
        have bX1 := bX.far (p := ⟨s1 + 1, 0, none⟩) (by show Bx ≠ s1 + 1; omega) (.int .i64 (ownP K I pre + x.T))
        have hfr1 := hfr.setCell (p := ⟨s1 + 1, 0, none⟩) (.inr (by show w.heap.size ≤ s1 + 1; omega)) (.int .i64 (ownP K I pre + x.T))
        have hs2 : s1 + 4 ≤ (W.setCell ⟨s1 + 1, 0, none⟩ (.int .i64 (ownP K I pre + x.T))).heap.size := by simpa [World.setCell] using hs1
        have hkf1 : KeepsFrom W0.heap.size W (W.setCell ⟨s1 + 1, 0, none⟩ (.int .i64 (ownP K I pre + x.T))) := (KeepsOthers.setCell _ _ _).from _
        have hkp1 : KpS w.heap.size (s1 + 4) W (W.setCell ⟨s1 + 1, 0, none⟩ (.int .i64 (ownP K I pre + x.T))) := (KpS.refl _ _ W).setCell (p := ⟨s1 + 1, 0, none⟩) (by show w.heap.size ≤ s1 + 1; omega) (by show s1 + 1 < s1 + 4; omega) _
        generalize W.setCell ⟨s1 + 1, 0, none⟩ (.int .i64 (ownP K I pre + x.T)) = W1 at *
        clear eK eI et eL eO eP fO fP e1 e3 e4 e5
        have et := bT1.cell 0
        have eL := bL1.cell 0
        have eP := bP1.cell 0
        have fP := bP1.frozen 0
        have e1 := bX1.cell 1
        have e5 := bX1.cell 5
        simp at et eL eP e1 e5
        have hLne : ¬ L = 0 := by omega
        have hmod : t.tmod L = t % L := Int.tmod_eq_emod_of_nonneg h1
        have hw1 : IntKind.i64.wrap (t % L - x.fr) = t % L - x.fr := IntWalk.i64_in _ (by omega)
        have hw2 : IntKind.i64.wrap (partP K I (t % L) pre + min (max 0 (t % L - x.fr)) x.T) = partP K I (t % L) pre + min (max 0 (t % L - x.fr)) x.T := IntWalk.i64_in _ (by omega)
        refine wpIn_region_inv hm (by kernel_rfl) (fun L' a w' => a = { tmps := #[.slice A n cap, .int .i64 K, .int .i64 I, .int .i64 t, undef, .pointer (some ⟨w.heap.size, 0, none⟩), .pointer (some ⟨w.heap.size + 1, 0, none⟩), .pointer (some ⟨w.heap.size + 1 + 1, 0, none⟩), .int .i64 0, .pointer (some ⟨s1, 0, none⟩), .pointer (some ⟨s1 + 1, 0, none⟩), .pointer (some ⟨s1 + 1 + 1, 0, none⟩), .pointer (some ⟨Bx, 0, none⟩), .slice A n cap, .int .i64 L, .slice A n cap, .func (.func 47) #[] #[.pointer (some ⟨s1 + 1 + 1 + 1, 0, none⟩)], .agg #[.int .i64 x.num, .int .i64 x.fr, .int .i64 x.to, .int .i64 x.K, .int .i64 x.I, .int .i64 x.T], .pointer (some ⟨Bx, 3, none⟩), .pointer (some ⟨Bx, 3, none⟩), .int .i64 x.K, .int .i64 K, .bool true, .bool true, .pointer (some ⟨Bx, 3, none⟩), .pointer (some ⟨Bx, 4, none⟩), .int .i64 x.I, .int .i64 I, .bool true, .bool true, .int .i64 (ownP K I pre), .pointer (some ⟨Bx, 3, none⟩), .pointer (some ⟨Bx, 5, none⟩), .int .i64 x.T, .int .i64 (ownP K I pre + x.T), bif L'.getD 0 false then .int .i64 (partP K I (t % L) pre) else undef, bif L'.getD 1 false then .int .i64 t else undef, bif L'.getD 2 false then .int .i64 L else undef, bif L'.getD 3 false then .int .i64 (t % L) else undef, bif L'.getD 4 false then .pointer (some ⟨Bx, 1, none⟩) else undef, bif L'.getD 5 false then .int .i64 x.fr else undef, bif L'.getD 6 false then .int .i64 (t % L - x.fr) else undef, bif L'.getD 7 false then .int .i64 (max 0 (t % L - x.fr)) else undef, bif L'.getD 8 false then .pointer (some ⟨Bx, 3, none⟩) else undef, bif L'.getD 9 false then .pointer (some ⟨Bx, 5, none⟩) else undef, bif L'.getD 10 false then .int .i64 x.T else undef, bif L'.getD 11 false then .int .i64 (min (max 0 (t % L - x.fr)) x.T) else undef, bif L'.getD 12 false then .int .i64 (partP K I (t % L) pre + min (max 0 (t % L - x.fr)) x.T) else undef, undef, undef, undef, undef, undef, undef, undef], defers := [] } ∧ (w' = bif L'.getD 13 false then W1.drew.setCell ⟨s1 + 1 + 1, 0, none⟩ (.int .i64 (partP K I (t % L) pre + min (max 0 (t % L - x.fr)) x.T)) else W1.drew) ∧ (L'.getD 13 false = true → ∀ j, j < 13 → L'.getD j false = true)) ⟨rfl, rfl, fun h => by cases h⟩ ?_ ?_
        · rintro ⟨L'⟩ _ w' i o hs ho hf hp ⟨rfl, hw, hcl⟩
          match L', hs with
          | [b0, b1, b2, b3, b4, b5, b6, b7, b8, b9, b10, b11, b12, b13], _ =>
          replace hw : w' = bif b13 then W1.drew.setCell ⟨s1 + 1 + 1, 0, none⟩ (.int .i64 (partP K I (t % L) pre + min (max 0 (t % L - x.fr)) x.T)) else W1.drew := hw
          replace hcl : b13 = true → ∀ j, j < 13 → (#[b0, b1, b2, b3, b4, b5, b6, b7, b8, b9, b10, b11, b12, b13].getD j false) = true := hcl
          match i, ho with
          | 0, ho => injection ho with ho; subst ho; simp [Region.binds] at hf hp; (have h13 : b13 = false := by (cases hb : b13 with | false => rfl | true => exact absurd (hcl hb 0 (by omega)) (by simp [hf]))); subst h13; simp only [cond_false] at hw; subst hw; refine wpOpIn_step rfl (fun K' hK => ?_); go_simp; refine hK _ _ ⟨by simp [hf, hp], rfl, by simp⟩
          | 1, ho => injection ho with ho; subst ho; simp [Region.binds] at hf hp; (have h13 : b13 = false := by (cases hb : b13 with | false => rfl | true => exact absurd (hcl hb 1 (by omega)) (by simp [hf]))); subst h13; simp only [cond_false] at hw; subst hw; refine wpOpIn_step rfl (fun K' hK => ?_); go_simp; refine hK _ _ ⟨by simp [hf, hp], rfl, by simp⟩
          | 2, ho => injection ho with ho; subst ho; simp [Region.binds] at hf hp; (have h13 : b13 = false := by (cases hb : b13 with | false => rfl | true => exact absurd (hcl hb 2 (by omega)) (by simp [hf]))); subst h13; simp only [cond_false] at hw; subst hw; refine wpOpIn_step rfl (fun K' hK => ?_); go_simp; refine hK _ _ ⟨by simp [hf, hp], rfl, by simp⟩
          | 3, ho => injection ho with ho; subst ho; simp [Region.binds] at hf hp; (have h13 : b13 = false := by (cases hb : b13 with | false => rfl | true => exact absurd (hcl hb 3 (by omega)) (by simp [hf]))); subst h13; simp only [cond_false] at hw; subst hw; refine wpOpIn_step rfl (fun K' hK => ?_); go_simp; refine hK _ _ ⟨by simp [hf, hp], rfl, by simp⟩
          | 4, ho => injection ho with ho; subst ho; simp [Region.binds] at hf hp; (have h13 : b13 = false := by (cases hb : b13 with | false => rfl | true => exact absurd (hcl hb 4 (by omega)) (by simp [hf]))); subst h13; simp only [cond_false] at hw; subst hw; refine wpOpIn_step rfl (fun K' hK => ?_); go_simp; refine hK _ _ ⟨by simp [hf, hp], rfl, by simp⟩
          | 5, ho => injection ho with ho; subst ho; simp [Region.binds] at hf hp; (have h13 : b13 = false := by (cases hb : b13 with | false => rfl | true => exact absurd (hcl hb 5 (by omega)) (by simp [hf]))); subst h13; simp only [cond_false] at hw; subst hw; refine wpOpIn_step rfl (fun K' hK => ?_); go_simp; refine hK _ _ ⟨by simp [hf, hp], rfl, by simp⟩
          | 6, ho => injection ho with ho; subst ho; simp [Region.binds] at hf hp; (have h13 : b13 = false := by (cases hb : b13 with | false => rfl | true => exact absurd (hcl hb 6 (by omega)) (by simp [hf]))); subst h13; simp only [cond_false] at hw; subst hw; refine wpOpIn_step rfl (fun K' hK => ?_); go_simp; refine hK _ _ ⟨by simp [hf, hp], rfl, by simp⟩
          | 7, ho => injection ho with ho; subst ho; simp [Region.binds] at hf hp; (have h13 : b13 = false := by (cases hb : b13 with | false => rfl | true => exact absurd (hcl hb 7 (by omega)) (by simp [hf]))); subst h13; simp only [cond_false] at hw; subst hw; refine wpOpIn_step rfl (fun K' hK => ?_); go_simp; refine hK _ _ ⟨by simp [hf, hp]; rw [Int.max_def]; split <;> split <;> omega, rfl, by simp⟩
          | 8, ho => injection ho with ho; subst ho; simp [Region.binds] at hf hp; (have h13 : b13 = false := by (cases hb : b13 with | false => rfl | true => exact absurd (hcl hb 8 (by omega)) (by simp [hf]))); subst h13; simp only [cond_false] at hw; subst hw; refine wpOpIn_step rfl (fun K' hK => ?_); go_simp; refine hK _ _ ⟨by simp [hf, hp], rfl, by simp⟩
          | 9, ho => injection ho with ho; subst ho; simp [Region.binds] at hf hp; (have h13 : b13 = false := by (cases hb : b13 with | false => rfl | true => exact absurd (hcl hb 9 (by omega)) (by simp [hf]))); subst h13; simp only [cond_false] at hw; subst hw; refine wpOpIn_step rfl (fun K' hK => ?_); go_simp; refine hK _ _ ⟨by simp [hf, hp], rfl, by simp⟩
          | 10, ho => injection ho with ho; subst ho; simp [Region.binds] at hf hp; (have h13 : b13 = false := by (cases hb : b13 with | false => rfl | true => exact absurd (hcl hb 10 (by omega)) (by simp [hf]))); subst h13; simp only [cond_false] at hw; subst hw; refine wpOpIn_step rfl (fun K' hK => ?_); go_simp; refine hK _ _ ⟨by simp [hf, hp], rfl, by simp⟩
          | 11, ho => injection ho with ho; subst ho; simp [Region.binds] at hf hp; (have h13 : b13 = false := by (cases hb : b13 with | false => rfl | true => exact absurd (hcl hb 11 (by omega)) (by simp [hf]))); subst h13; simp only [cond_false] at hw; subst hw; refine wpOpIn_step rfl (fun K' hK => ?_); go_simp; refine hK _ _ ⟨by simp [hf, hp]; rw [Int.min_def]; split <;> split <;> omega, rfl, by simp⟩
          | 12, ho => injection ho with ho; subst ho; simp [Region.binds] at hf hp; (have h13 : b13 = false := by (cases hb : b13 with | false => rfl | true => exact absurd (hcl hb 12 (by omega)) (by simp [hf]))); subst h13; simp only [cond_false] at hw; subst hw; refine wpOpIn_step rfl (fun K' hK => ?_); go_simp; refine hK _ _ ⟨by simp [hf, hp], rfl, by simp⟩
          | 13, ho => injection ho with ho; subst ho; simp [Region.binds] at hf hp; subst hf; simp only [cond_false] at hw; subst hw; refine wpOpIn_step rfl (fun K' hK => ?_); go_simp; refine hK _ _ ⟨by simp [hp], rfl, fun _ j hj => ?_⟩; (match j, hj with | 0, _ => simp [hp] | 1, _ => simp [hp] | 2, _ => simp [hp] | 3, _ => simp [hp] | 4, _ => simp [hp] | 5, _ => simp [hp] | 6, _ => simp [hp] | 7, _ => simp [hp] | 8, _ => simp [hp] | 9, _ => simp [hp] | 10, _ => simp [hp] | 11, _ => simp [hp] | 12, _ => simp [hp])
          | i + 14, ho => simp at ho
        · rintro _ w' ⟨rfl, rfl, -⟩
          have bP2 := bP1.drew.set_ 0 (.int .i64 (partP K I (t % L) pre + min (max 0 (t % L - x.fr)) x.T))
          have hP : partP K I (t % L) (pre ++ [x]) = partP K I (t % L) pre + min (max 0 (t % L - x.fr)) x.T := by rw [partP_snoc, Hi.out]; simp
          have hO : ownP K I (pre ++ [x]) = ownP K I pre + x.T := by rw [ownP_snoc, Hi.out]; simp
          have HP := Lib.hid hP
          have HO := Lib.hid hO
          clear hP hO
          refine ⟨(hkf1.trans ((KeepsOthers.drew _).from _)).trans ((KeepsOthers.setCell _ _ _).from _), (hkp1.drew).setCell (p := ⟨s1 + 1 + 1, 0, none⟩) (by show w.heap.size ≤ s1 + 1 + 1; omega) (by show s1 + 1 + 1 < s1 + 4; omega) _, ⟨⟨⟨⟨⟨⟨⟨?_, ?_⟩, ?_⟩, ?_⟩, ?_⟩, ?_⟩, ?_⟩, ?_⟩⟩
          · exact bK1.drew.far (by show w.heap.size ≠ s1 + 1 + 1; omega) _
          · exact bI1.drew.far (by show w.heap.size + 1 ≠ s1 + 1 + 1; omega) _
          · exact bT1.drew.far (by show w.heap.size + 1 + 1 ≠ s1 + 1 + 1; omega) _
          · exact bL1.drew.far (by show s1 ≠ s1 + 1 + 1; omega) _
          · rw [HO.out]; exact bO1.drew.far (by show s1 + 1 ≠ s1 + 1 + 1; omega) _
          · rw [HP.out]; exact bP2
          · exact hfr1.drew.setCell (.inr (by show w.heap.size ≤ s1 + 1 + 1; omega)) _
          · exact Nat.le_trans hs2 (Nat.le_of_eq (size_set W1.drew _ _).symm)
      · have hk1 : (x.K == K) = true := by simp [hcK]
        have hk2 : (x.I == I) = false := by simp [hcI]
        clear hcK hcI
        have Hi : Hid (isOf K I x = false) := Lib.hid (by simp [isOf, hk1, hk2])
        gi_wp2
        exact ⟨KeepsFrom.refl _ _, KpS.refl _ _ _, ⟨⟨⟨⟨⟨⟨⟨bK, bI⟩, bT⟩, bL⟩, by rw [ownP_snoc, Hi.out]; simpa using bO⟩, by rw [partP_snoc, Hi.out]; simpa using bP⟩, hfr⟩, hs1⟩⟩
    · have hk1 : (x.K == K) = false := by simp [hcK]
      clear hcK
      have Hi : Hid (isOf K I x = false) := Lib.hid (by simp [isOf, hk1])
      gi_wp2
      exact ⟨KeepsFrom.refl _ _, KpS.refl _ _ _, ⟨⟨⟨⟨⟨⟨⟨bK, bI⟩, bT⟩, bL⟩, by rw [ownP_snoc, Hi.out]; simpa using bO⟩, by rw [partP_snoc, Hi.out]; simpa using bP⟩, hfr⟩, hs1⟩⟩
  case done =>
    rintro D zs W hD rfl ⟨⟨⟨⟨⟨⟨⟨bK, bI⟩, bT⟩, bL⟩, bO⟩, bP⟩, hfr⟩, hs1⟩ hK
    have et := bT.cell 0
    have eL := bL.cell 0
    have eO := bO.cell 0
    have eP := bP.cell 0
    simp at et eL eO eP
    have ob := ownP_bd K I (spL l hok)
    have pb := partP_bd K I (t % L) (spL l hok)
    have hll : (spL l hok).length ≤ 64 := by rw [spL, spTo_len]; omega
    have hLne : ¬ L = 0 := by omega
    have hdiv : t.tdiv L = t / L := Int.tdiv_eq_ediv_of_nonneg h1
    have hd0 : 0 ≤ t / L := Int.ediv_nonneg h1 (by omega)
    have hd1 : t / L ≤ t := Int.ediv_le_self L h1
    have hm0 : 0 ≤ t / L * ownP K I (spL l hok) := Int.mul_nonneg hd0 ob.1
    have hm1 : t / L * ownP K I (spL l hok) ≤ 1099511627776 * 16320 := Int.mul_le_mul (by omega) (by omega) ob.1 (by omega)
    have hm2 : wrap64 (t / L * ownP K I (spL l hok)) = t / L * ownP K I (spL l hok) := IntWalk.wrap64_in _ (by omega)
    have hm3 : wrap64 (t / L * ownP K I (spL l hok) + partP K I (t % L) (spL l hok)) = t / L * ownP K I (spL l hok) + partP K I (t % L) (spL l hok) := IntWalk.wrap64_in _ (by omega)
    have H2 := Lib.hid hm2
    have H3 := Lib.hid hm3
    clear hm2 hm3 hm0 hm1
    go_wp2
    go_quiet (fail)
    go_wp2
    refine ⟨by simp, .inl ⟨_, _, rfl, run_takeDeferred hK, ?_⟩⟩
    refine ⟨_, results_tmp rfl _ _ _, ?_, (hfr.drewN nq).putDef (by omega) hK⟩
    exact ret_int (by rw [H2.out, H3.out])
  case stop =>
    rintro D c pre W _ _ h _
    exact h.elim
end Go.Proofs.Ytnpdljmgjpngaaa

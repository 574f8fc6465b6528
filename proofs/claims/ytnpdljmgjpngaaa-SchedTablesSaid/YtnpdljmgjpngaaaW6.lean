/- Ticks: the program's. -/
import Derived.Test.YtnpdljmgjpngaaaW5
namespace Go.Proofs.Ytnpdljmgjpngaaa
open Go.RowKit Go.Shelf
set_option linter.unusedVariables false
set_option linter.unusedSimpArgs false

/-- Is a window of a kind and an index? -/
def isW (K I : Int) (x : Win) : Bool := x.K == K && x.I == I
/-- How many ticks the windows of a kind and an index have. -/
def ownS (K I : Int) (l : List Win) : Int := (l.map fun x => if isW K I x then x.T else 0).sum
/-- How many of them lie ahead of place r, the first window beginning at a. -/
def partS (K I r : Int) : Int → List Win → Int
  | _, [] => 0
  | a, x :: l => (if isW K I x then min (max 0 (r - a)) x.T else 0) + partS K I r (a + x.T) l
/-- How many ticks ahead of one are in windows of a kind and an index. -/
def upS (l : List Win) (K I t : Int) : Int := t / tot l l.length * ownS K I l + partS K I (t % tot l l.length) 0 l
theorem isOf_spAt (l : List Win) (hok : okL l = true) (K I : Int) (k : Nat) (hk : k < l.length) : isOf K I (spAt l hok k hk) = isW K I l[k] := rfl
theorem ownP_spTo (l : List Win) (hok : okL l = true) (K I : Int) : ∀ k hk, ownP K I (spTo l hok k hk) = ownS K I (l.take k) := by
  intro k
  induction k with
  | zero => intro _; simp [spTo, ownP, ownS]
  | succ k ih =>
    intro hk
    rw [spTo, ownP_snoc, ih, isOf_spAt, List.take_succ_eq_append_getElem (by omega)]
    simp only [ownS, List.map_append, List.map_cons, List.map_nil, List.sum_append, List.sum_cons, List.sum_nil, spAt, Int.add_zero]
theorem partS_snoc (K I r : Int) (x : Win) : ∀ (l : List Win) (a : Int), partS K I r a (l ++ [x]) = partS K I r a l + if isW K I x then min (max 0 (r - (a + (l.map (·.T)).sum))) x.T else 0 := by
  intro l
  induction l with
  | nil => intro a; simp [partS]
  | cons y l ih =>
    intro a
    simp only [List.cons_append, partS, ih, List.map_cons, List.sum_cons]
    rw [show a + y.T + (l.map (·.T)).sum = a + (y.T + (l.map (·.T)).sum) by omega]
    omega
theorem partP_spTo (l : List Win) (hok : okL l = true) (K I r : Int) : ∀ k hk, partP K I r (spTo l hok k hk) = partS K I r 0 (l.take k) := by
  intro k
  induction k with
  | zero => intro _; simp [spTo, partP, partS]
  | succ k ih =>
    intro hk
    rw [spTo, partP_snoc, ih, isOf_spAt, List.take_succ_eq_append_getElem (by omega), partS_snoc]
    simp [spAt, tot]
theorem aheadT_upS (l : List Win) (hok : okL l = true) (K I t : Int) : aheadT l hok K I t = upS l K I t := by
  unfold aheadT upS spL
  rw [ownP_spTo, partP_spTo, List.take_length]
theorem ahead_up (A : Option Addr) (n cap : Nat) (l : List Win) (w : World) (K I t : Int) (h : WinsIn w (.slice A n cap) l) (hn : n ≤ 4611686018427387904) (hok : okL l = true) (h1 : 0 ≤ t) (h2 : t ≤ 1099511627776) :
    Calls Try.prog 41 #[.slice A n cap, .int .i64 K, .int .i64 I, .int .i64 t] w fun e w' => e = .returned (.int .i64 (upS l K I t)) ∧ Fr [] w w' := by
  have := ahead_any A n cap l w K I t h hn hok h1 h2
  rwa [aheadT_upS] at this
theorem upS_bd (l : List Win) (hok : okL l = true) (K I t : Int) (h1 : 0 ≤ t) (h2 : t ≤ 1099511627776) : 0 ≤ upS l K I t ∧ upS l K I t ≤ 18000000000000000 := by
  rw [← aheadT_upS l hok]
  unfold aheadT
  have hl := okL_len hok
  have hL := tot_bd hok l.length (Nat.le_refl _)
  have ob := ownP_bd K I (spL l hok)
  have pb := partP_bd K I (t % tot l l.length) (spL l hok)
  have hll : (spL l hok).length ≤ 64 := by rw [spL, spTo_len]; omega
  have hd0 : 0 ≤ t / tot l l.length := Int.ediv_nonneg h1 (by omega)
  have hd1 : t / tot l l.length ≤ t := Int.ediv_le_self _ h1
  have hm0 : 0 ≤ t / tot l l.length * ownP K I (spL l hok) := Int.mul_nonneg hd0 ob.1
  have hm1 : t / tot l l.length * ownP K I (spL l hok) ≤ 1099511627776 * 16320 := Int.mul_le_mul (by omega) (by omega) ob.1 (by omega)
  omega

/-- May these be asked? -/
def tkArg (f t : Int) : Bool := !(decide (0 ≤ f) && decide (f ≤ 1099511627776) && (decide (0 ≤ t) && decide (t ≤ 1099511627776)) && decide (f ≤ t))
/-- What Ticks tells. -/
def tkT (l : List Win) (K I f t : Int) : Int := if okL l then (if tkArg f t then 0 else upS l K I t - upS l K I f) else 0
def tkE (l : List Win) (f t : Int) : Int := if okL l then (if tkArg f t then 1 else 0) else 130

theorem ret_2i {a b c d : Int} (h1 : a = c) (h2 : b = d) : Ending.returned (.tuple #[.int .i64 a, .int .i64 b]) = .returned (.tuple #[.int .i64 c, .int .i64 d]) := by rw [h1, h2]
theorem tkArg_yes {f t : Int} (h : f < 0 ∨ 1099511627776 < f ∨ t < 0 ∨ 1099511627776 < t ∨ t < f) : tkArg f t = true := by
  unfold tkArg
  rw [Bool.not_eq_true', Bool.eq_false_iff]
  intro hh
  simp only [Bool.and_eq_true, decide_eq_true_eq] at hh
  omega
theorem tkArg_no {f t : Int} (h1 : 0 ≤ f) (h2 : f ≤ 1099511627776) (h3 : 0 ≤ t) (h4 : t ≤ 1099511627776) (h5 : f ≤ t) : tkArg f t = false := by
  unfold tkArg
  simp [h1, h2, h3, h4, h5]
set_option maxHeartbeats 1000000 in
theorem Ticks_any (A : Option Addr) (n cap : Nat) (l : List Win) (w : World) (K I f t : Int) (h : WinsIn w (.slice A n cap) l) (hn : n ≤ 4611686018427387904) :
    Calls Try.prog 14 #[.slice A n cap, .int .i64 K, .int .i64 I, .int .i64 f, .int .i64 t] w fun e w' => e = .returned (.tuple #[.int .i64 (tkT l K I f t), .int .i64 (tkE l f t)]) ∧ Fr [] w w' := by
  cases hok : okL l with
  | false =>
    have Hc := Lib.hid fun w h => check_no A n cap l w h hn hok
    have H := Lib.hid h
    have Hok := Lib.hid hok
    clear h hok
    go_enter Try.func14, Try.ntmps14
    go_wp2_with (go_at_call 10; go_must ((with_reducible refine (Hc.out _ H.out).mono ?_); rintro e w1 ⟨rfl, hf1⟩))
    go_ret2
    refine ⟨ret_2i ?_ ?_, hf1⟩ <;> simp [tkT, tkE, Hok.out]
  | true =>
    have Hc := Lib.hid fun w h => check_ok A n cap l w h hn hok
    have H := Lib.hid h
    have Hok := Lib.hid hok
    clear h hok
    by_cases hf : f < 0 ∨ 1099511627776 < f
    · have Hf := Lib.hid hf
      clear hf
      go_enter Try.func14, Try.ntmps14
      go_wp2_with (first
        | (go_at_call 10; go_must ((with_reducible refine (Hc.out _ H.out).mono ?_); rintro e w1 ⟨rfl, hf1⟩))
        | (go_at_call 38; go_must ((with_reducible refine (tick_no _ _ Hf.out).mono ?_); rintro e w2 ⟨rfl, rfl⟩)))
      go_ret2
      have := tkArg_yes (f := f) (t := t) (by have := Hf.out; omega)
      refine ⟨ret_2i ?_ ?_, hf1⟩ <;> simp [tkT, tkE, Hok.out, this]
    · have f0 : 0 ≤ f := by omega
      have f1 : f ≤ 1099511627776 := by omega
      clear hf
      by_cases ht : t < 0 ∨ 1099511627776 < t
      · have Ht := Lib.hid ht
        clear ht
        go_enter Try.func14, Try.ntmps14
        go_wp2_with fail
        refine (Hc.out _ H.out).mono ?_
        rintro e w1 ⟨rfl, hf1⟩
        go_wp2_with fail
        refine (tick_yes _ _ f0 f1).mono ?_
        rintro e w2 ⟨rfl, rfl⟩
        go_wp2_with fail
        refine (tick_no _ _ Ht.out).mono ?_
        rintro e w2 ⟨rfl, rfl⟩
        go_wp2_with fail
        go_ret2
        have := tkArg_yes (f := f) (t := t) (by have := Ht.out; omega)
        refine ⟨ret_2i ?_ ?_, hf1⟩ <;> simp [tkT, tkE, Hok.out, this]
      · have t0 : 0 ≤ t := by omega
        have t1 : t ≤ 1099511627776 := by omega
        clear ht
        by_cases hft : t < f
        · go_enter Try.func14, Try.ntmps14
          go_wp2_with fail
          refine (Hc.out _ H.out).mono ?_
          rintro e w1 ⟨rfl, hf1⟩
          go_wp2_with fail
          refine (tick_yes _ _ f0 f1).mono ?_
          rintro e w2 ⟨rfl, rfl⟩
          go_wp2_with fail
          refine (tick_yes _ _ t0 t1).mono ?_
          rintro e w2 ⟨rfl, rfl⟩
          go_wp2_with fail
          go_ret2
          have := tkArg_yes (f := f) (t := t) (by omega)
          refine ⟨ret_2i ?_ ?_, hf1⟩ <;> simp [tkT, tkE, Hok.out, this]
        · have hft' : f ≤ t := by omega
          have ub1 := upS_bd l Hok.out K I f f0 f1
          have ub2 := upS_bd l Hok.out K I t t0 t1
          have Hn := Lib.hid hn
          clear hn
          go_enter Try.func14, Try.ntmps14
          go_wp2_with fail
          refine (Hc.out _ H.out).mono ?_
          rintro e w1 ⟨rfl, hf1⟩
          go_wp2_with fail
          refine (tick_yes _ _ f0 f1).mono ?_
          rintro e w2 ⟨rfl, rfl⟩
          go_wp2_with fail
          refine (tick_yes _ _ t0 t1).mono ?_
          rintro e w2 ⟨rfl, rfl⟩
          go_wp2_with fail
          refine (ahead_up A n cap l _ K I t (H.out.fr hf1) Hn.out Hok.out t0 t1).mono ?_
          rintro e w3 ⟨rfl, hf3⟩
          go_wp2_with fail
          refine (ahead_up A n cap l _ K I f ((H.out.fr hf1).fr hf3) Hn.out Hok.out f0 f1).mono ?_
          rintro e w4 ⟨rfl, hf4⟩
          go_wp2_with fail
          go_ret2
          have := tkArg_no f0 f1 t0 t1 hft'
          refine ⟨ret_2i ?_ ?_, (hf1.trans hf3).trans hf4⟩ <;> simp [tkT, tkE, Hok.out, this]
end Go.Proofs.Ytnpdljmgjpngaaa

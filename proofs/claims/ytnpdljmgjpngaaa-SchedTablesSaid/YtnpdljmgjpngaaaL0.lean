/- The calls, whole, as plain functions; fixed. -/
import Derived.Test.YtnpdljmgjpngaaaR4
namespace Go.Proofs.Ytnpdljmgjpngaaa
open Go.RowKit
set_option linter.unusedVariables false
set_option linter.unusedSimpArgs false

/-- Is it a tick? -/
def badT (t : Int) : Bool := decide (t < 0) || decide (1099511627776 < t)
theorem badT_yes {t : Int} (h : badT t = true) : t < 0 ∨ 1099511627776 < t := by
  unfold badT at h
  simpa using h
theorem badT_no {t : Int} (h : badT t = false) : 0 ≤ t ∧ t ≤ 1099511627776 := by
  unfold badT at h
  simp at h
  omega
/-- What At tells. -/
def atM (l : List Win) (t : Int) : Int := if okL l && !badT t then t / tot l l.length else 0
def atP (l : List Win) (t : Int) : Int × Int := if okL l && !badT t then (fl l).getD (t % tot l l.length).toNat (0, 0) else (0, 0)
def atE (l : List Win) (t : Int) : Int := if okL l then (if badT t then 1 else 0) else 130
theorem atP_of {l : List Win} (hok : okL l = true) {t : Int} (ht : badT t = false) {k : Nat} (h : InWin l k (t % tot l l.length)) : atP l t = ((k : Int), t % tot l l.length - tot l k) := by
  have hl := okL_len hok
  have hL := tot_bd hok l.length (Nat.le_refl _)
  have hfl := fl_all hok
  have r0 := Int.emod_nonneg t (show tot l l.length ≠ 0 by omega)
  have r1 := Int.emod_lt_of_pos t (show 0 < tot l l.length by omega)
  obtain ⟨j, hj, hg⟩ := fl_get hok (r := (t % tot l l.length).toNat) (by omega)
  rw [Int.toNat_of_nonneg r0] at hj hg
  have := inWin_uniq hok h hj
  subst this
  unfold atP
  rw [hok, ht]
  simp only [Bool.not_false, Bool.and_self, if_true, List.getD_eq_getElem?_getD, hg, Option.getD_some]
theorem At_any (A : Option Addr) (n cap : Nat) (l : List Win) (w : World) (t : Int) (h : WinsIn w (.slice A n cap) l) (hn : n ≤ 4611686018427387904) :
    Calls Try.prog 12 #[.slice A n cap, .int .i64 t] w fun e w' => e = .returned (.tuple #[.agg #[.int .i64 (atM l t), .int .i64 (atP l t).1, .int .i64 (atP l t).2], .int .i64 (atE l t)]) ∧ Fr [] w w' := by
  cases hok : okL l with
  | false => exact (at_no A n cap l w t h hn hok).mono fun e w' ⟨he, hf⟩ => ⟨by rw [he, atM, atP, atE, hok]; rfl, hf⟩
  | true =>
    cases ht : badT t with
    | true => exact (at_arg A n cap l w t h hn hok (badT_yes ht)).mono fun e w' ⟨he, hf⟩ => ⟨by rw [he, atM, atP, atE, hok, ht]; rfl, hf⟩
    | false =>
      have hb := badT_no ht
      exact (at_ok A n cap l w t h hn hok hb.1 hb.2).mono fun e w' ⟨k, hk, he, hf⟩ => ⟨by rw [he, atP_of hok ht hk, atM, atE, hok, ht]; rfl, hf⟩
theorem rAt_any (A : Option Addr) (n cap : Nat) (l : List Win) (w : World) (t : Int) (h : WinsIn w (.slice A n cap) l) (hn : n ≤ 4611686018427387904) :
    Calls Try.prog 13 #[.slice A n cap, .int .i64 t] w fun e w' => e = .returned (.tuple #[.int .i64 (atM l t), .int .i64 (atP l t).1, .int .i64 (atP l t).2, .int .i64 (atE l t)]) ∧ Fr [] w w' := by
  cases hok : okL l with
  | false => exact (rat_no A n cap l w t h hn hok).mono fun e w' ⟨he, hf⟩ => ⟨by rw [he, atM, atP, atE, hok]; rfl, hf⟩
  | true =>
    cases ht : badT t with
    | true => exact (rat_arg A n cap l w t h hn hok (badT_yes ht)).mono fun e w' ⟨he, hf⟩ => ⟨by rw [he, atM, atP, atE, hok, ht]; rfl, hf⟩
    | false =>
      have hb := badT_no ht
      exact (rat_ok A n cap l w t h hn hok hb.1 hb.2).mono fun e w' ⟨k, hk, he, hf⟩ => ⟨by rw [he, atP_of hok ht hk, atM, atE, hok, ht]; rfl, hf⟩

/-- What Next tells. -/
def NextR (l : List Win) (K I t x er : Int) : Prop := (okL l = false ∧ x = 0 ∧ er = 130) ∨ (okL l = true ∧ badT t = true ∧ x = 0 ∧ er = 1) ∨ (okL l = true ∧ badT t = false ∧ NextIs l K I t x er)
theorem nextR_uniq {l : List Win} {K I t x y a b : Int} (h1 : NextR l K I t x a) (h2 : NextR l K I t y b) : x = y ∧ a = b := by
  cases hok : okL l with
  | false =>
    rcases h1 with ⟨_, rfl, rfl⟩ | ⟨h, _⟩ | ⟨h, _⟩
    · rcases h2 with ⟨_, rfl, rfl⟩ | ⟨h, _⟩ | ⟨h, _⟩
      · exact ⟨rfl, rfl⟩
      · rw [hok] at h; cases h
      · rw [hok] at h; cases h
    · rw [hok] at h; cases h
    · rw [hok] at h; cases h
  | true =>
    cases ht : badT t with
    | true =>
      rcases h1 with ⟨h, _⟩ | ⟨_, _, rfl, rfl⟩ | ⟨_, h, _⟩
      · rw [hok] at h; cases h
      · rcases h2 with ⟨h, _⟩ | ⟨_, _, rfl, rfl⟩ | ⟨_, h, _⟩
        · rw [hok] at h; cases h
        · exact ⟨rfl, rfl⟩
        · rw [ht] at h; cases h
      · rw [ht] at h; cases h
    | false =>
      rcases h1 with ⟨h, _⟩ | ⟨_, h, _⟩ | ⟨_, _, h3⟩
      · rw [hok] at h; cases h
      · rw [ht] at h; cases h
      · rcases h2 with ⟨h, _⟩ | ⟨_, h, _⟩ | ⟨_, _, h4⟩
        · rw [hok] at h; cases h
        · rw [ht] at h; cases h
        · exact next_uniq h3 h4
def NxtPost (w : World) (l : List Win) (K I t : Int) (e : Ending) (w' : World) : Prop := ∃ x er, e = .returned (.tuple #[.int .i64 x, .int .i64 er]) ∧ NextR l K I t x er ∧ Fr [] w w'
theorem Next_any (A : Option Addr) (n cap : Nat) (l : List Win) (w : World) (K I t : Int) (h : WinsIn w (.slice A n cap) l) (hn : n ≤ 4611686018427387904) :
    Calls Try.prog 16 #[.slice A n cap, .int .i64 K, .int .i64 I, .int .i64 t] w (NxtPost w l K I t) := by
  cases hok : okL l with
  | false => exact (next_no A n cap l w K I t h hn hok).mono fun e w' ⟨he, hf⟩ => ⟨_, _, he, .inl ⟨hok, rfl, rfl⟩, hf⟩
  | true =>
    cases ht : badT t with
    | true => exact (next_arg A n cap l w K I t h hn hok (badT_yes ht)).mono fun e w' ⟨he, hf⟩ => ⟨_, _, he, .inr (.inl ⟨hok, ht, rfl, rfl⟩), hf⟩
    | false =>
      have hb := badT_no ht
      exact (next_ok A n cap l w K I t h hn hok hb.1 hb.2).mono fun e w' ⟨x, er, he, hx, hf⟩ => ⟨_, _, he, .inr (.inr ⟨hok, ht, hx⟩), hf⟩
theorem rNext_any (A : Option Addr) (n cap : Nat) (l : List Win) (w : World) (K I t : Int) (h : WinsIn w (.slice A n cap) l) (hn : n ≤ 4611686018427387904) :
    Calls Try.prog 17 #[.slice A n cap, .int .i64 K, .int .i64 I, .int .i64 t] w (NxtPost w l K I t) := by
  cases hok : okL l with
  | false => exact (rnext_no A n cap l w K I t h hn hok).mono fun e w' ⟨he, hf⟩ => ⟨_, _, he, .inl ⟨hok, rfl, rfl⟩, hf⟩
  | true =>
    cases ht : badT t with
    | true => exact (rnext_arg A n cap l w K I t h hn hok (badT_yes ht)).mono fun e w' ⟨he, hf⟩ => ⟨_, _, he, .inr (.inl ⟨hok, ht, rfl, rfl⟩), hf⟩
    | false =>
      have hb := badT_no ht
      exact (rnext_ok A n cap l w K I t h hn hok hb.1 hb.2).mono fun e w' ⟨x, er, he, hx, hf⟩ => ⟨_, _, he, .inr (.inr ⟨hok, ht, hx⟩), hf⟩

/-- The windows of 'fixed'. -/
def ws0 : List Win := [⟨1, 0, 2⟩, ⟨0, 0, 1⟩, ⟨1, 0, 1⟩, ⟨2, 1, 3⟩]
theorem ws0_ok : okL ws0 = true := by decide
theorem ws0_len : lenT ws0 = 7 := by decide
theorem ws0_ch : chE ws0 = 0 := by decide
theorem ws0_at : atM ws0 13 = 1 ∧ atP ws0 13 = (3, 2) ∧ atE ws0 13 = 0 := by decide
theorem ws0_tk : tkT ws0 1 0 1 9 = 4 ∧ tkE ws0 1 9 = 0 := by decide
theorem ws0_tot : tot ws0 0 = 0 ∧ tot ws0 1 = 2 ∧ tot ws0 2 = 3 ∧ tot ws0 3 = 4 ∧ tot ws0 ws0.length = 7 := by decide
theorem ws0_next : NextR ws0 1 0 4 7 0 := by
  refine .inr (.inr ⟨ws0_ok, by decide, .inl ⟨rfl, by omega, ⟨0, ⟨1, 0, 2⟩, rfl, rfl, by decide⟩, ?_⟩⟩)
  obtain ⟨t0, t1, t2, t3, t4⟩ := ws0_tot
  rintro y h1 h2 ⟨k, v, hk, hv, hy⟩
  rw [t4] at hy
  match k, hk, hy with
  | 0, _, hy => rw [t0] at hy; omega
  | 1, hk, _ => injection hk with hk; subst hk; cases hv
  | 2, _, hy => rw [t2] at hy; omega
  | 3, hk, _ => injection hk with hk; subst hk; cases hv
  | k + 4, hk, _ => simp [ws0] at hk
theorem ws0_none : NextR ws0 3 0 0 0 130 := .inr (.inr ⟨ws0_ok, by decide, .inr ⟨rfl, rfl, by intro v hv; simp [ws0] at hv; rcases hv with rfl | rfl | rfl | rfl <;> rfl⟩⟩)
theorem ws0_in {w : World} {g : Nat} (h : Blk w g 40 #[.int .i64 1, .int .i64 0, .int .i64 2, .int .i64 0, .int .i64 0, .int .i64 1, .int .i64 1, .int .i64 0, .int .i64 1, .int .i64 2, .int .i64 1, .int .i64 3]) : WinsIn w (.slice (some ⟨g, 0, none⟩) 4 4) ws0 := by
  have hlt := h.lt
  have c := h.cell
  refine ⟨by simp [ws0, maxLen], some ⟨g, 0, none⟩, 4, rfl, fun i hi => ?_⟩
  match i, hi with
  | 0, _ => exact ⟨g, 0, ⟨1, 0, 2⟩, rfl, hlt, rfl, c 0, c 1, c 2⟩
  | 1, _ => exact ⟨g, 0, ⟨0, 0, 1⟩, rfl, hlt, rfl, c 3, c 4, c 5⟩
  | 2, _ => exact ⟨g, 0, ⟨1, 0, 1⟩, rfl, hlt, rfl, c 6, c 7, c 8⟩
  | 3, _ => exact ⟨g, 0, ⟨2, 1, 3⟩, rfl, hlt, rfl, c 9, c 10, c 11⟩
  | i + 4, hi => exact absurd (show i + 4 < 4 from hi) (by omega)
theorem nil_in (w : World) : WinsIn w (.slice none 0 0) [] := ⟨by simp, none, 0, rfl, fun i hi => by simp at hi⟩

set_option maxRecDepth 100000 in
set_option maxHeartbeats 2000000 in
theorem fixed_any (w : World) : Calls Try.prog 18 #[] w fun e w' => e = .returned (.bool true) ∧ Fr [] w w' := by
  have Hb := Lib.hid (Blk.new w 40 #[.int .i64 1, .int .i64 0, .int .i64 2, .int .i64 0, .int .i64 0, .int .i64 1, .int .i64 1, .int .i64 0, .int .i64 1, .int .i64 2, .int .i64 1, .int .i64 3])
  have Hf := Lib.hid ((Fr.refl [] w).alloc (.cells #[.int .i64 1, .int .i64 0, .int .i64 2, .int .i64 0, .int .i64 0, .int .i64 1, .int .i64 1, .int .i64 0, .int .i64 1, .int .i64 2, .int .i64 1, .int .i64 3] 40))
  have heq : ∀ w, (binOp .eql 30 (.agg #[.int .i64 1, .int .i64 3, .int .i64 2]) (.agg #[.int .i64 1, .int .i64 3, .int .i64 2])).run Try.prog w = .ok (.bool true) w := fun _ => by kernel_rfl
  go_enter Try.func18, Try.ntmps18
  go_wp2_with fail
  have h1 := Length_any (some ⟨w.heap.size, 0, none⟩) 4 4 ws0 _ (ws0_in Hb.out) (by omega)
  rw [ws0_len, ws0_ch] at h1
  refine h1.mono ?_
  clear h1
  rintro e w1 ⟨rfl, hf1⟩
  have W1 := Lib.hid ((ws0_in Hb.out).fr hf1)
  go_wp2_with fail
  have h1 := At_any (some ⟨w.heap.size, 0, none⟩) 4 4 ws0 _ 13 W1.out (by omega)
  rw [ws0_at.1, ws0_at.2.1, ws0_at.2.2] at h1
  refine h1.mono ?_
  clear h1
  rintro e w2 ⟨rfl, hf2⟩
  have W2 := Lib.hid ((W1.out.fr hf2).fr (((Fr.refl [] w2).alloc (.cells #[.int .i64 1, .int .i64 3, .int .i64 2] 30))))
  have hp := Blk.new w2 30 #[.int .i64 1, .int .i64 3, .int .i64 2]
  go_wp2_with fail
  have h1 := Ticks_any (some ⟨w.heap.size, 0, none⟩) 4 4 ws0 _ 1 0 1 9 W2.out (by omega)
  rw [ws0_tk.1, ws0_tk.2] at h1
  refine h1.mono ?_
  clear h1
  rintro e w3 ⟨rfl, hf3⟩
  replace hp := hp.fr hf3 (by simp)
  have W3 := Lib.hid (W2.out.fr hf3)
  go_wp2_with fail
  refine (Next_any (some ⟨w.heap.size, 0, none⟩) 4 4 ws0 _ 1 0 4 W3.out (by omega)).mono ?_
  rintro e w4 ⟨x, er, rfl, hx, hf4⟩
  obtain ⟨rfl, rfl⟩ := nextR_uniq hx ws0_next
  clear hx
  replace hp := hp.fr hf4 (by simp)
  have W4 := Lib.hid (W3.out.fr hf4)
  go_wp2_with fail
  refine (Next_any (some ⟨w.heap.size, 0, none⟩) 4 4 ws0 _ 3 0 0 W4.out (by omega)).mono ?_
  rintro e w5 ⟨x, er, rfl, hx, hf5⟩
  obtain ⟨rfl, rfl⟩ := nextR_uniq hx ws0_none
  clear hx
  replace hp := hp.fr hf5 (by simp)
  have p0 := hp.cell 0
  have p1 := hp.cell 1
  have p2 := hp.cell 2
  simp at p0 p1 p2
  go_wp2_with fail
  refine (check_no none 0 0 [] _ (nil_in _) (by omega) rfl).mono ?_
  rintro e w6 ⟨rfl, hf6⟩
  go_wp2_with fail
  go_ret
  exact ⟨rfl, ((((((Hf.out.trans hf1).trans hf2).alloc _).trans hf3).trans hf4).trans hf5).trans hf6⟩
end Go.Proofs.Ytnpdljmgjpngaaa

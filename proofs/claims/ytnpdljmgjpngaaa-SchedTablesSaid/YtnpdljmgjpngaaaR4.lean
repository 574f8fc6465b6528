/- The reference's Ticks, Next. -/
import Derived.Test.YtnpdljmgjpngaaaR3
namespace Go.Proofs.Ytnpdljmgjpngaaa
open Go.RowKit
set_option linter.unusedVariables false
set_option linter.unusedSimpArgs false

set_option maxHeartbeats 1000000 in
theorem rTicks_any (A : Option Addr) (n cap : Nat) (l : List Win) (w : World) (K I f t : Int) (h : WinsIn w (.slice A n cap) l) (hn : n ≤ 4611686018427387904) :
    Calls Try.prog 15 #[.slice A n cap, .int .i64 K, .int .i64 I, .int .i64 f, .int .i64 t] w fun e w' => e = .returned (.tuple #[.int .i64 (tkT l K I f t), .int .i64 (tkE l f t)]) ∧ Fr [] w w' := by
  cases hok : okL l with
  | false =>
    have Hc := Lib.hid fun w h => rcheck_no A n cap l w h hn hok
    have H := Lib.hid h
    have Hok := Lib.hid hok
    clear h hok
    go_enter Try.func15, Try.ntmps15
    go_wp2_with (go_at_call 11; go_must ((with_reducible refine (Hc.out _ H.out).mono ?_); rintro e w1 ⟨rfl, hf1⟩))
    go_ret2
    refine ⟨ret_2i ?_ ?_, hf1⟩ <;> simp [tkT, tkE, Hok.out]
  | true =>
    have Hc := Lib.hid fun w h => rcheck_ok A n cap l w h hn hok
    have H := Lib.hid h
    have Hok := Lib.hid hok
    clear h hok
    by_cases hf : f < 0 ∨ 1099511627776 < f
    · have Hf := Lib.hid hf
      clear hf
      go_enter Try.func15, Try.ntmps15
      go_wp2_with (first
        | (go_at_call 11; go_must ((with_reducible refine (Hc.out _ H.out).mono ?_); rintro e w1 ⟨rfl, hf1⟩))
        | (go_at_call 40; go_must ((with_reducible refine (rtick_no _ _ Hf.out).mono ?_); rintro e w2 ⟨rfl, rfl⟩)))
      go_ret2
      have := tkArg_yes (f := f) (t := t) (by have := Hf.out; omega)
      refine ⟨ret_2i ?_ ?_, hf1⟩ <;> simp [tkT, tkE, Hok.out, this]
    · have f0 : 0 ≤ f := by omega
      have f1 : f ≤ 1099511627776 := by omega
      clear hf
      by_cases ht : t < 0 ∨ 1099511627776 < t
      · have Ht := Lib.hid ht
        clear ht
        go_enter Try.func15, Try.ntmps15
        go_wp2_with fail
        refine (Hc.out _ H.out).mono ?_
        rintro e w1 ⟨rfl, hf1⟩
        go_wp2_with fail
        refine (rtick_yes _ _ f0 f1).mono ?_
        rintro e w2 ⟨rfl, rfl⟩
        go_wp2_with fail
        refine (rtick_no _ _ Ht.out).mono ?_
        rintro e w2 ⟨rfl, rfl⟩
        go_wp2_with fail
        go_ret2
        have := tkArg_yes (f := f) (t := t) (by have := Ht.out; omega)
        refine ⟨ret_2i ?_ ?_, hf1⟩ <;> simp [tkT, tkE, Hok.out, this]
      · have t0 : 0 ≤ t := by omega
        have t1 : t ≤ 1099511627776 := by omega
        clear ht
        by_cases hft : t < f
        · go_enter Try.func15, Try.ntmps15
          go_wp2_with fail
          refine (Hc.out _ H.out).mono ?_
          rintro e w1 ⟨rfl, hf1⟩
          go_wp2_with fail
          refine (rtick_yes _ _ f0 f1).mono ?_
          rintro e w2 ⟨rfl, rfl⟩
          go_wp2_with fail
          refine (rtick_yes _ _ t0 t1).mono ?_
          rintro e w2 ⟨rfl, rfl⟩
          go_wp2_with fail
          go_ret2
          have := tkArg_yes (f := f) (t := t) (by omega)
          refine ⟨ret_2i ?_ ?_, hf1⟩ <;> simp [tkT, tkE, Hok.out, this]
        · have hft' : f ≤ t := by omega
          have ub1 := upS_bd l Hok.out K I f f0 f1
          have ub2 := upS_bd l Hok.out K I t t0 t1
          go_enter Try.func15, Try.ntmps15
          go_wp2_with fail
          refine (Hc.out _ H.out).mono ?_
          rintro e w1 ⟨rfl, hf1⟩
          go_wp2_with fail
          refine (rtick_yes _ _ f0 f1).mono ?_
          rintro e w2 ⟨rfl, rfl⟩
          go_wp2_with fail
          refine (rtick_yes _ _ t0 t1).mono ?_
          rintro e w2 ⟨rfl, rfl⟩
          go_wp2_with fail
          refine (upTo_any A n cap l _ K I t (H.out.fr hf1) Hok.out t0 t1).mono ?_
          rintro e w3 ⟨rfl, hf3⟩
          go_wp2_with fail
          refine (upTo_any A n cap l _ K I f ((H.out.fr hf1).fr hf3) Hok.out f0 f1).mono ?_
          rintro e w4 ⟨rfl, hf4⟩
          go_wp2_with fail
          go_ret2
          have := tkArg_no f0 f1 t0 t1 hft'
          refine ⟨ret_2i ?_ ?_, (hf1.trans hf3).trans hf4⟩ <;> simp [tkT, tkE, Hok.out, this]

theorem rnext_no (A : Option Addr) (n cap : Nat) (l : List Win) (w : World) (K I t : Int) (h : WinsIn w (.slice A n cap) l) (hn : n ≤ 4611686018427387904) (hok : okL l = false) :
    Calls Try.prog 17 #[.slice A n cap, .int .i64 K, .int .i64 I, .int .i64 t] w fun e w' => e = .returned (.tuple #[.int .i64 0, .int .i64 130]) ∧ Fr [] w w' := by
  have Hc := Lib.hid fun w h => rcheck_no A n cap l w h hn hok
  have H := Lib.hid h
  clear h hok
  go_enter Try.func17, Try.ntmps17
  go_wp2_with (go_at_call 11; go_must ((with_reducible refine (Hc.out _ H.out).mono ?_); rintro e w1 ⟨rfl, hf1⟩))
  go_ret2
  exact ⟨rfl, hf1⟩
theorem rnext_arg (A : Option Addr) (n cap : Nat) (l : List Win) (w : World) (K I t : Int) (h : WinsIn w (.slice A n cap) l) (hn : n ≤ 4611686018427387904) (hok : okL l = true) (ht : t < 0 ∨ 1099511627776 < t) :
    Calls Try.prog 17 #[.slice A n cap, .int .i64 K, .int .i64 I, .int .i64 t] w fun e w' => e = .returned (.tuple #[.int .i64 0, .int .i64 1]) ∧ Fr [] w w' := by
  have Hc := Lib.hid fun w h => rcheck_ok A n cap l w h hn hok
  have H := Lib.hid h
  have Ht := Lib.hid ht
  clear h hok ht
  go_enter Try.func17, Try.ntmps17
  go_wp2_with (first
    | (go_at_call 11; go_must ((with_reducible refine (Hc.out _ H.out).mono ?_); rintro e w1 ⟨rfl, hf1⟩))
    | (go_at_call 40; go_must ((with_reducible refine (rtick_no _ _ Ht.out).mono ?_); rintro e w2 ⟨rfl, rfl⟩)))
  go_ret2
  exact ⟨rfl, hf1⟩

/-- A window of the kind and index begins at tick y. -/
def Beg (l : List Win) (K I y : Int) : Prop := ∃ k v, l[k]? = some v ∧ isW K I v = true ∧ y % tot l l.length = tot l k
theorem beg_iff {l : List Win} (h : okL l = true) {K I y : Int} {k : Nat} {v : Win} (h1 : InWin l k (y % tot l l.length)) (hv : l[k]? = some v) : Beg l K I y ↔ y % tot l l.length - tot l k = 0 ∧ isW K I v = true := by
  constructor
  · rintro ⟨j, u, hj, hu, hy⟩
    have hjl : j < l.length := (List.getElem?_eq_some_iff.1 hj).1
    have h2 : InWin l j (y % tot l l.length) := ⟨hjl, by omega, by rw [hy]; exact tot_lt h (by omega) (by omega)⟩
    have := inWin_uniq h h1 h2
    subst this
    rw [hj] at hv
    injection hv with hv
    subst hv
    exact ⟨by omega, hu⟩
  · rintro ⟨h2, h3⟩
    exact ⟨k, v, hv, h3, by omega⟩
/-- Within a row as long as the frame each window begins. -/
theorem beg_somewhere {l : List Win} (h : okL l = true) {K I t : Int} {v : Win} (hv : v ∈ l) (hw : isW K I v = true) : ∃ y, t ≤ y ∧ y < t + tot l l.length ∧ Beg l K I y := by
  obtain ⟨j, hj⟩ := List.getElem?_of_mem hv
  have hjl : j < l.length := (List.getElem?_eq_some_iff.1 hj).1
  have hl := okL_len h
  have hL := tot_bd h l.length (Nat.le_refl _)
  have hjb := tot_bd h j (by omega)
  have hlt := tot_lt h hjl (Nat.le_refl _)
  have r0 := Int.emod_nonneg t (show tot l l.length ≠ 0 by omega)
  have r1 := Int.emod_lt_of_pos t (show 0 < tot l l.length by omega)
  by_cases hc : t ≤ t - t % tot l l.length + tot l j
  · refine ⟨t - t % tot l l.length + tot l j, hc, by omega, j, v, hj, hw, ?_⟩
    rw [emod_base (t := t) (by omega) (by omega) (by omega)]
    omega
  · refine ⟨t - t % tot l l.length + tot l j + tot l l.length, by omega, by omega, j, v, hj, hw, ?_⟩
    have h5 : (t - t % tot l l.length + tot l j + tot l l.length) % tot l l.length = (t - t % tot l l.length + tot l j) % tot l l.length := by
      rw [show t - t % tot l l.length + tot l j + tot l l.length = t - t % tot l l.length + tot l j + tot l l.length * 1 by omega, Int.add_mul_emod_self_left]
    rw [h5, emod_base (t := t) (by omega) (by omega) (by omega)]
    omega
theorem next_mk {l : List Win} {K I t y : Int} (h1 : t ≤ y) (h2 : Beg l K I y) (h3 : ∀ z, t ≤ z → z < y → ¬ Beg l K I z) : NextIs l K I t y 0 := .inl ⟨rfl, h1, h2, h3⟩
theorem next_mk0 {l : List Win} (h : okL l = true) {K I t : Int} (h3 : ∀ z, t ≤ z → z < t + tot l l.length → ¬ Beg l K I z) : NextIs l K I t 0 130 := by
  refine .inr ⟨rfl, rfl, fun v hv => ?_⟩
  cases hw : isW K I v with
  | false => rfl
  | true =>
    obtain ⟨y, h4, h5, h6⟩ := beg_somewhere h (t := t) hv hw
    exact absurd h6 (h3 y h4 h5)
/-- The values that Next tells are one. -/
theorem next_uniq {l : List Win} {K I t x y a b : Int} (h1 : NextIs l K I t x a) (h2 : NextIs l K I t y b) : x = y ∧ a = b := by
  rcases h1 with ⟨rfl, h1, h3, h5⟩ | ⟨rfl, rfl, h1⟩ <;> rcases h2 with ⟨rfl, h2, h4, h6⟩ | ⟨rfl, rfl, h2⟩
  · refine ⟨?_, rfl⟩
    rcases Int.lt_trichotomy x y with h | h | h
    · exact absurd h3 (h6 x h1 h)
    · exact h
    · exact absurd h4 (h5 y h2 h)
  · obtain ⟨k, v, hk, hv, _⟩ := h3
    rw [h2 v (List.mem_of_getElem? hk)] at hv
    cases hv
  · obtain ⟨k, v, hk, hv, _⟩ := h4
    rw [h1 v (List.mem_of_getElem? hk)] at hv
    cases hv
  · exact ⟨rfl, rfl⟩

set_option maxRecDepth 100000 in
set_option maxHeartbeats 4000000 in
theorem rnext_ok (A : Option Addr) (n cap : Nat) (l : List Win) (w : World) (K I t : Int) (h : WinsIn w (.slice A n cap) l) (hn : n ≤ 4611686018427387904) (hok : okL l = true) (h1 : 0 ≤ t) (h2 : t ≤ 1099511627776) :
    Calls Try.prog 17 #[.slice A n cap, .int .i64 K, .int .i64 I, .int .i64 t] w (NxPost w l K I t) := by
  have Hc := Lib.hid fun w h => rcheck_ok A n cap l w h hn hok
  have Hl := Lib.hid fun w h => frame_any A n cap l w h hok
  have hbd := tot_bd hok l.length (Nat.le_refl _)
  have hl := okL_len hok
  have hL := fl_all hok
  have Hlen := Lib.hid h.len
  have H := Lib.hid h
  clear h
  have hm0 : 0 < (fl l).length := by omega
  have hm1 : (fl l).length ≤ 16320 := by omega
  have Hget := Lib.hid fun (i : Nat) (hi : i < (fl l).length) => fl_get hok hi
  have HL := Lib.hid hL
  clear hL hbd
  generalize hmm : (fl l).length = m at *
  have HM := Lib.hid hmm
  clear hmm
  have hne : ¬ (m : Int) = 0 := by omega
  go_enter Try.func17, Try.ntmps17
  go_wp2_with (first
    | (go_at_call 11; go_must ((with_reducible refine (Hc.out _ H.out).mono ?_); rintro e w1 ⟨rfl, hf1⟩))
    | (go_at_call 40; go_must ((with_reducible refine (rtick_yes _ _ h1 h2).mono ?_); rintro e w2 ⟨rfl, rfl⟩))
    | (go_at_call 33; go_must ((with_reducible refine (Hl.out _ (H.out.fr hf1)).mono ?_); rintro e w3 ⟨v, rfl, ⟨g, cap2, rfl, hc⟩, hf2⟩; have HC := Lib.hid hc; simp only [HM.out]; clear hc))
    | fail)
  go_loopg [12] m (fun gg i wr => ∃ (k : Nat) (y : Int), k + gg = m ∧ y = t + k ∧ i = .int .i64 y ∧ (∀ z, t ≤ z → z < y → ¬ Beg l K I z) ∧ Fr [] w3 wr)
  case atStart => exact ⟨0, t, by omega, by omega, rfl, fun z h3 h4 => by omega, Fr.refl _ _⟩
  case round =>
    obtain ⟨k, y, hk, hy, rfl, hno, hfr⟩ := hrel
    have Hk := Lib.hid hk
    have Hy := Lib.hid hy
    have Hno := Lib.hid hno
    have hyb : t ≤ y ∧ y ≤ t + 16320 := by omega
    by_cases hlt : y < t + (m : Int)
    · obtain ⟨r, hr⟩ : ∃ r : Nat, y % (m : Int) = r := ⟨(y % (m : Int)).toNat, by have := Int.emod_nonneg y (show (m : Int) ≠ 0 by omega); omega⟩
      have hrm : (r : Int) < m := by have := Int.emod_lt_of_pos y (show (0 : Int) < m by omega); omega
      obtain ⟨j, hin, hget⟩ := Hget.out r (by omega)
      have hjl := hin.1
      obtain ⟨x, hx⟩ : ∃ x, l[j]? = some x := ⟨_, List.getElem?_eq_getElem hjl⟩
      have hcc := HC.out r _ hget
      have e0 := hfr.cell_some hcc.1 (by simp)
      have e1 := hfr.cell_some hcc.2 (by simp)
      obtain ⟨b, off, hA, hbl, c0, c1, c2⟩ := (H.out.fr ((hf1.trans hf2).trans hfr)).at_ hx
      subst hA
      have hjn : (j : Int) < n := by have := Hlen.out; omega
      have hbeg := beg_iff hok (K := K) (I := I) (y := y) (by rw [← HL.out, hr]; exact hin) hx
      rw [← HL.out, hr] at hbeg
      have HB := Lib.hid hbeg
      have hmod : y.tmod (m : Int) = r := by rw [Int.tmod_eq_emod_of_nonneg (by omega)]; exact hr
      have hib := hin.2.1
      have htb := tot_bd hok j (by omega)
      have Hin := Lib.hid hin
      clear hk hy hno hin hget hx hbeg hcc hr
      obtain ⟨q, hq⟩ : ∃ q : Int, (r : Int) - tot l j = q := ⟨_, rfl⟩
      rw [hq] at e1 HB
      have hqb : 0 ≤ q ∧ q ≤ 16320 := by omega
      have hgo : ∀ (hB : ¬ Beg l K I y) (z : Int), t ≤ z → z < y + 1 → ¬ Beg l K I z := fun hB z h3 h4 => by
        by_cases h5 : z < y
        · exact Hno.out z h3 h5
        · have : z = y := by omega
          subst this; exact hB
      have HGO := Lib.hid hgo
      clear hq hgo
      by_cases hq0 : q = 0
      · have hk0 : (q == 0) = true := by simp [hq0]
        by_cases hcK : x.K = K
        · have hk1 : (x.K == K) = true := by simp [hcK]
          by_cases hcI : x.I = I
          · have hk2 : (x.I == I) = true := by simp [hcI]
            have HW : Hid (Beg l K I y) := Lib.hid (HB.out.2 ⟨hq0, by simp [isW, hk1, hk2]⟩)
            clear hcK hcI hq0
            go_wp2
            go_ret2
            exact ⟨y, 0, rfl, next_mk hyb.1 HW.out Hno.out, ((hf1.trans hf2).trans hfr).alloc _⟩
          · have hk2 : (x.I == I) = false := by simp [hcI]
            have HW : Hid (¬ Beg l K I y) := Lib.hid (fun hB => by have := (HB.out.1 hB).2; simp [isW, hk2] at this)
            clear hcK hcI hq0
            go_wp2
            go_roundg (m - (k + 1))
            case measure => have := Hk.out; have := Hy.out; omega
            case rel => exact ⟨k + 1, y + 1, by have := Hk.out; have := Hy.out; omega, by have := Hy.out; omega, rfl, HGO.out HW.out, hfr.alloc _⟩
        · have hk1 : (x.K == K) = false := by simp [hcK]
          have HW : Hid (¬ Beg l K I y) := Lib.hid (fun hB => by have := (HB.out.1 hB).2; simp [isW, hk1] at this)
          clear hcK hq0
          go_wp2
          go_roundg (m - (k + 1))
          case measure => have := Hk.out; have := Hy.out; omega
          case rel => exact ⟨k + 1, y + 1, by have := Hk.out; have := Hy.out; omega, by have := Hy.out; omega, rfl, HGO.out HW.out, hfr.alloc _⟩
      · have hk0 : (q == 0) = false := by simp [hq0]
        have HW : Hid (¬ Beg l K I y) := Lib.hid (fun hB => hq0 (HB.out.1 hB).1)
        clear hq0
        go_wp2
        go_roundg (m - (k + 1))
        case measure => have := Hk.out; have := Hy.out; omega
        case rel => exact ⟨k + 1, y + 1, by have := Hk.out; have := Hy.out; omega, by have := Hy.out; omega, rfl, HGO.out HW.out, hfr.alloc _⟩
    · have hnone : NextIs l K I t 0 130 := next_mk0 hok (fun z h3 h4 => hno z h3 (by have := HL.out; omega))
      have HN := Lib.hid hnone
      clear hk hy hno hnone
      go_wp2
      go_ret2
      exact ⟨0, 130, rfl, HN.out, (hf1.trans hf2).trans hfr⟩
end Go.Proofs.Ytnpdljmgjpngaaa

/- The reference's upTo, Ticks. -/
import Derived.Test.YtnpdljmgjpngaaaR2
namespace Go.Proofs.Ytnpdljmgjpngaaa
open Go.RowKit
set_option linter.unusedVariables false
set_option linter.unusedSimpArgs false

/-- Is a tick of the frame in a window of the kind and index? -/
def mt (l : List Win) (K I : Int) (p : Int × Int) : Bool := match l[p.1.toNat]? with
  | some x => isW K I x
  | none => false
def cnt (l : List Win) (K I : Int) (f : List (Int × Int)) : Nat := (f.filter (mt l K I)).length
theorem cnt_app (l : List Win) (K I : Int) (f g : List (Int × Int)) : cnt l K I (f ++ g) = cnt l K I f + cnt l K I g := by simp [cnt]
theorem cnt_le (l : List Win) (K I : Int) (f : List (Int × Int)) : cnt l K I f ≤ f.length := List.length_filter_le _ _
theorem mt_row (l : List Win) (K I : Int) {i : Nat} {x : Win} (h : l[i]? = some x) (k : Int) : mt l K I ((i : Int), k) = isW K I x := by
  simp [mt, h]
theorem cnt_row (l : List Win) (K I : Int) {i : Nat} {x : Win} (h : l[i]? = some x) (T : Nat) : cnt l K I (rowOf i T) = if isW K I x then T else 0 := by
  induction T with
  | zero => simp [rowOf, cnt]
  | succ T ih =>
    rw [rowOf_succ, cnt_app, ih]
    simp only [cnt, List.filter_cons, mt_row l K I h, List.filter_nil]
    split <;> simp
theorem row_take (i T r : Nat) : (rowOf i T).take r = rowOf i (min r T) := by
  simp only [rowOf, ← List.map_take, List.take_range]
theorem partS_zero (K I R : Int) : ∀ (l : List Win) (a : Int), R ≤ a → (∀ x, x ∈ l → 1 ≤ x.T) → partS K I R a l = 0 := by
  intro l
  induction l with
  | nil => intro a _ _; rfl
  | cons x l ih =>
    intro a ha hT
    have h1 := hT x (by simp)
    rw [partS, ih (a + x.T) (by omega) (fun y hy => hT y (by simp [hy]))]
    split <;> omega
theorem cnt_part (l : List Win) (K I : Int) : ∀ (l' pre : List Win) (a : Int) (r : Nat), l = pre ++ l' → (∀ x, x ∈ l' → 1 ≤ x.T) → ((cnt l K I ((flF pre.length l').take r) : Nat) : Int) = partS K I (a + r) a l' := by
  intro l'
  induction l' with
  | nil => intro pre a r _ _; simp [flF, cnt, partS]
  | cons x l' ih =>
    intro pre a r hl hT
    have hx : l[pre.length]? = some x := by rw [hl]; simp
    have h1 := hT x (by simp)
    have h2 : ∀ y, y ∈ l' → 1 ≤ y.T := fun y hy => hT y (by simp [hy])
    have hpl : pre.length + 1 = (pre ++ [x]).length := by simp
    rw [flF, List.take_append, cnt_app, row_take, cnt_row l K I hx, rowOf_len, partS, hpl]
    by_cases hr : r < x.T.toNat
    · rw [show r - x.T.toNat = 0 by omega, partS_zero K I _ l' _ (by omega) h2]
      simp only [List.take_zero]
      split <;> simp [cnt] <;> omega
    · have := ih (pre ++ [x]) (a + x.T) (r - x.T.toNat) (by simp [hl]) h2
      rw [show a + x.T + ((r - x.T.toNat : Nat) : Int) = a + r by omega] at this
      push_cast
      rw [this]
      split <;> omega
theorem cnt_own (l : List Win) (K I : Int) : ∀ (l' pre : List Win), l = pre ++ l' → (∀ x, x ∈ l' → 1 ≤ x.T) → ((cnt l K I (flF pre.length l') : Nat) : Int) = ownS K I l' := by
  intro l'
  induction l' with
  | nil => intro pre _ _; simp [flF, cnt, ownS]
  | cons x l' ih =>
    intro pre hl hT
    have hx : l[pre.length]? = some x := by rw [hl]; simp
    have h1 := hT x (by simp)
    have hpl : pre.length + 1 = (pre ++ [x]).length := by simp
    rw [flF, cnt_app, cnt_row l K I hx, hpl]
    push_cast
    rw [ih (pre ++ [x]) (by simp [hl]) (fun y hy => hT y (by simp [hy]))]
    simp only [ownS, List.map_cons, List.sum_cons]
    split <;> omega
theorem okL_T {l : List Win} (h : okL l = true) : ∀ x, x ∈ l → 1 ≤ x.T := by
  intro x hx
  obtain ⟨j, hj⟩ := List.getElem?_of_mem hx
  have := (mayW_iff x).1 (okL_at h hj)
  omega
/-- What the reference counts. -/
theorem cnt_up {l : List Win} (h : okL l = true) (K I : Int) {t : Int} {r : Nat} (hr : t % ((fl l).length : Int) = r) :
    ((cnt l K I (fl l) : Nat) : Int) * (t / ((fl l).length : Int)) + ((cnt l K I ((fl l).take r) : Nat) : Int) = upS l K I t := by
  have h1 := cnt_own l K I l [] rfl (okL_T h)
  have h2 := cnt_part l K I l [] 0 r rfl (okL_T h)
  simp only [List.length_nil, Int.zero_add] at h1 h2
  unfold upS fl at *
  rw [h1, h2, ← fl_all h]
  unfold fl
  rw [hr, Int.mul_comm]
theorem cnt_succ (l : List Win) (K I : Int) {f : List (Int × Int)} {i : Nat} {p : Int × Int} (h : f[i]? = some p) : cnt l K I (f.take (i + 1)) = cnt l K I (f.take i) + if mt l K I p then 1 else 0 := by
  rw [List.take_add_one, h, cnt_app]
  simp only [cnt, Option.toList_some, List.filter_cons, List.filter_nil]
  split <;> simp

theorem cnt_min (l : List Win) (K I : Int) {f : List (Int × Int)} {i r : Nat} {p : Int × Int} (h : f[i]? = some p) : cnt l K I (f.take (min (i + 1) r)) = cnt l K I (f.take (min i r)) + if mt l K I p ∧ i < r then 1 else 0 := by
  by_cases hr : i < r
  · rw [Nat.min_eq_left (by omega), Nat.min_eq_left (by omega), cnt_succ l K I h]
    simp [hr]
  · rw [Nat.min_eq_right (by omega), Nat.min_eq_right (by omega)]
    simp [hr]

set_option maxRecDepth 100000 in
set_option maxHeartbeats 2000000 in
theorem upTo_any (A : Option Addr) (n cap : Nat) (l : List Win) (w : World) (K I t : Int) (h : WinsIn w (.slice A n cap) l) (hok : okL l = true) (h1 : 0 ≤ t) (h2 : t ≤ 1099511627776) :
    Calls Try.prog 42 #[.slice A n cap, .int .i64 K, .int .i64 I, .int .i64 t] w fun e w' => e = .returned (.int .i64 (upS l K I t)) ∧ Fr [] w w' := by
  have Hl := Lib.hid fun w h => frame_any A n cap l w h hok
  have hbd := tot_bd hok l.length (Nat.le_refl _)
  have hl := okL_len hok
  have hL := fl_all hok
  have Hlen := Lib.hid h.len
  have H := Lib.hid h
  clear h
  have hm0 : 0 < (fl l).length := by omega
  have hm1 : (fl l).length ≤ 16320 := by omega
  obtain ⟨r, hr⟩ : ∃ r : Nat, t % ((fl l).length : Int) = r := ⟨(t % ((fl l).length : Int)).toNat, by have := Int.emod_nonneg t (show ((fl l).length : Int) ≠ 0 by omega); omega⟩
  have hrm : r < (fl l).length := by have := Int.emod_lt_of_pos t (show (0 : Int) < (fl l).length by omega); omega
  have Hup := Lib.hid (cnt_up hok K I hr)
  have Hget := Lib.hid fun (i : Nat) (hi : i < (fl l).length) => fl_get hok hi
  clear hL hbd
  have hcl := cnt_le l K I (fl l)
  have Hcle := Lib.hid fun i => Nat.le_trans (cnt_le l K I ((fl l).take i)) (List.length_take_le i (fl l))
  generalize hmm : (fl l).length = m at *
  have HM := Lib.hid hmm
  clear hmm
  have hr2 : (r : Int) < m := by omega
  have hmod : t.tmod (m : Int) = r := by rw [Int.tmod_eq_emod_of_nonneg h1]; exact hr
  have hdiv : t.tdiv (m : Int) = t / m := Int.tdiv_eq_ediv_of_nonneg h1
  have hne : ¬ (m : Int) = 0 := by omega
  have Hr := Lib.hid hr
  go_enter Try.func42, Try.ntmps42
  go_wp2_with (first
    | (go_at_call 33; go_must ((with_reducible refine (Hl.out _ H.out).mono ?_); rintro e w3 ⟨v, rfl, ⟨g, cap2, rfl, hc⟩, hf2⟩; have HC := Lib.hid hc; simp only [HM.out]; clear hc))
    | fail)
  go_loopg [10, 11, 12] m (fun gg a b i wr => ∃ k : Nat, k + gg = m ∧ i = .int .i64 k ∧ a = .int .i64 (cnt l K I ((fl l).take k)) ∧ b = .int .i64 (cnt l K I ((fl l).take (min k r))) ∧ Fr [] w3 wr)
  case atStart => exact ⟨0, by omega, rfl, by simp [cnt], by simp [cnt], Fr.refl _ _⟩
  case round =>
    obtain ⟨k, hk, rfl, rfl, rfl, hfr⟩ := hrel
    have Hk := Lib.hid hk
    by_cases hlt : k < m
    · obtain ⟨j, hin, hget⟩ := Hget.out k hlt
      have hjl := hin.1
      obtain ⟨x, hx⟩ : ∃ x, l[j]? = some x := ⟨_, List.getElem?_eq_getElem hjl⟩
      have hcc := HC.out k _ hget
      have e0 := hfr.cell_some hcc.1 (by simp)
      obtain ⟨b, off, hA, hbl, c0, c1, c2⟩ := (H.out.fr (hf2.trans hfr)).at_ hx
      subst hA
      have hjn : (j : Int) < n := by have := Hlen.out; omega
      have hmt := mt_row l K I hx ((k : Int) - tot l j)
      have hcs := cnt_succ l K I hget
      have hcm := cnt_min l K I (r := r) hget
      rw [hmt] at hcs hcm
      have HCS := Lib.hid hcs
      have HCM := Lib.hid hcm
      have hc1 := Hcle.out k
      have hc2 := Hcle.out (min k r)
      have Hget1 := Lib.hid hget
      have Hin := Lib.hid hin
      have Hx := Lib.hid hx
      have HMT := Lib.hid hmt
      have hd1 : (cnt l K I ((fl l).take k) : Int) ≤ 16320 := by omega
      have hd2 : (cnt l K I ((fl l).take (min k r)) : Int) ≤ 16320 := by omega
      obtain ⟨cw, hcw⟩ : ∃ cw : Nat, cnt l K I ((fl l).take k) = cw := ⟨_, rfl⟩
      obtain ⟨cp, hcp⟩ : ∃ cp : Nat, cnt l K I ((fl l).take (min k r)) = cp := ⟨_, rfl⟩
      rw [hcw] at hd1 ⊢
      rw [hcp] at hd2 ⊢
      have HCW := Lib.hid hcw
      have HCP := Lib.hid hcp
      clear hk hin hget hx hmt hcs hcm hcc hc1 hc2 hcw hcp
      by_cases hcK : x.K = K
      · by_cases hcI : x.I = I
        · have hk1 : (x.K == K) = true := by simp [hcK]
          have hk2 : (x.I == I) = true := by simp [hcI]
          have HW : Hid (isW K I x = true) := Lib.hid (by simp [isW, hk1, hk2])
          clear hcK hcI
          by_cases hkr : k < r
          · have hkr2 : (k : Int) < r := by omega
            go_wp2
            go_roundg (m - (k + 1))
            case measure => have := Hk.out; omega
            case rel => exact ⟨k + 1, by have := Hk.out; omega, by go_num, by rw [HCS.out, HCW.out]; simp [HW.out], by rw [HCM.out, HCP.out]; simp [HW.out, hkr], hfr.alloc _⟩
          · have hkr2 : ¬ (k : Int) < r := by omega
            go_wp2
            go_roundg (m - (k + 1))
            case measure => have := Hk.out; omega
            case rel => exact ⟨k + 1, by have := Hk.out; omega, by go_num, by rw [HCS.out, HCW.out]; simp [HW.out], by rw [HCM.out, HCP.out]; simp [HW.out, hkr], hfr.alloc _⟩
        · have hk1 : (x.K == K) = true := by simp [hcK]
          have hk2 : (x.I == I) = false := by simp [hcI]
          have HW : Hid (isW K I x = false) := Lib.hid (by simp [isW, hk1, hk2])
          clear hcK hcI
          go_wp2
          go_roundg (m - (k + 1))
          case measure => have := Hk.out; omega
          case rel => exact ⟨k + 1, by have := Hk.out; omega, by go_num, by rw [HCS.out, HCW.out]; simp [HW.out], by rw [HCM.out, HCP.out]; simp [HW.out], hfr.alloc _⟩
      · have hk1 : (x.K == K) = false := by simp [hcK]
        have HW : Hid (isW K I x = false) := Lib.hid (by simp [isW, hk1])
        clear hcK
        go_wp2
        go_roundg (m - (k + 1))
        case measure => have := Hk.out; omega
        case rel => exact ⟨k + 1, by have := Hk.out; omega, by go_num, by rw [HCS.out, HCW.out]; simp [HW.out], by rw [HCM.out, HCP.out]; simp [HW.out], hfr.alloc _⟩
    · have hkm : k = m := by omega
      have he1 : (fl l).take k = fl l := List.take_of_length_le (by have := HM.out; omega)
      have he2 : min k r = r := by omega
      have hup := Hup.out
      rw [he1, he2]
      have hc1 := Hcle.out r
      have q1 := Int.ediv_nonneg h1 (show (0 : Int) ≤ m by omega)
      have q2 := Int.ediv_le_self (m : Int) h1
      obtain ⟨cw, hcw⟩ : ∃ cw : Nat, cnt l K I (fl l) = cw := ⟨_, rfl⟩
      obtain ⟨cp, hcp⟩ : ∃ cp : Nat, cnt l K I ((fl l).take r) = cp := ⟨_, rfl⟩
      rw [hcw] at hup hcl ⊢
      rw [hcp] at hup hc1 ⊢
      have hcwb : (cw : Int) ≤ 16320 := by omega
      have hcpb : (cp : Int) ≤ 16320 := by omega
      have hm0' : 0 ≤ (cw : Int) * (t / m) := Int.mul_nonneg (by omega) q1
      have hm1' : (cw : Int) * (t / m) ≤ 16320 * 1099511627776 := Int.mul_le_mul hcwb (by omega) q1 (by omega)
      have HUP := Lib.hid hup
      clear hup hkm he1 he2 hk hc1 hcl hcw hcp
      go_wp2
      go_ret
      exact ⟨ret_int HUP.out, hf2.trans hfr⟩
end Go.Proofs.Ytnpdljmgjpngaaa

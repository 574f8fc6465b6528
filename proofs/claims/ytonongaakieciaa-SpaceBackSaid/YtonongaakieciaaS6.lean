/- The pages dealt: the iterator's walk. -/
import Derived.Test.YtonongaakieciaaS5
import Derived.Test.YtonongaakieciaaRd
namespace Go.Proofs.Ytonongaakieciaa
open Go.RowKit Go.Shelf
attribute [local go_sem] Oper.semAt_some
set_option linter.unusedVariables false
set_option linter.unusedSimpArgs false
set_option maxRecDepth 100000
/-- How many pages the j-th has, and the ones ahead of it. -/
def rN (t : List Pg) (j : Nat) : Nat := ((t[j]?).getD ⟨0, 0⟩).r.toNat
def tot (t : List Pg) (j : Nat) : Nat := ((List.range j).map (rN t)).sum
theorem tot_succ (t : List Pg) (j : Nat) : tot t (j + 1) = tot t j + rN t j := by
  unfold tot
  rw [List.range_succ, List.map_append, List.sum_append]
  simp
/-- What is dealt ahead of the k-th page of the p-th. -/
def dlt (t : List Pg) (p k : Nat) : List (Nat × Nat) := (List.range p).flatMap (fun j => (List.range (rN t j)).map fun i => (j, tot t j + i)) ++ (List.range k).map fun i => (p, tot t p + i)
theorem dlt_next (t : List Pg) (p k : Nat) : dlt t p (k + 1) = dlt t p k ++ [(p, tot t p + k)] := by
  unfold dlt
  rw [List.range_succ, List.map_append, List.append_assoc]
  rfl
theorem dlt_row (t : List Pg) (p : Nat) : dlt t (p + 1) 0 = dlt t p (rN t p) := by
  unfold dlt
  rw [List.range_succ, List.flatMap_append]
  simp
theorem dlt_len (t : List Pg) (p k : Nat) : (dlt t p k).length = tot t p + k := by
  have h0 : ∀ p, ((List.range p).flatMap (fun j => (List.range (rN t j)).map fun i => (j, tot t j + i))).length = tot t p := by
    intro p
    induction p with
    | zero => rfl
    | succ p ih =>
      rw [List.range_succ, List.flatMap_append, List.length_append, ih, tot_succ]
      simp
  unfold dlt
  rw [List.length_append, h0]
  simp
theorem ptOk_all {t : List Pg} (h : t.all ptOk = true) {j : Nat} {q : Pg} (hq : t[j]? = some q) : 1 ≤ q.r ∧ q.r ≤ 16 ∧ rN t j = q.r.toNat := by
  have := List.all_eq_true.1 h q (List.mem_of_getElem? hq)
  unfold ptOk at this
  simp only [Bool.and_eq_true, decide_eq_true_eq] at this
  refine ⟨this.1.1, this.1.2, ?_⟩
  unfold rN
  rw [hq]
  rfl
theorem rN_le {t : List Pg} (h : t.all ptOk = true) (j : Nat) : rN t j ≤ 16 := by
  cases hq : t[j]? with
  | none => unfold rN; rw [hq]; exact Nat.zero_le _
  | some q =>
    obtain ⟨h1, h2, h3⟩ := ptOk_all h hq
    omega
theorem tot_le {t : List Pg} (h : t.all ptOk = true) (j : Nat) : tot t j ≤ 16 * j := by
  induction j with
  | zero => exact Nat.zero_le _
  | succ j ih =>
    rw [tot_succ]
    have := rN_le h j
    omega
def denc (m : Nat) : Nat × Nat → Array Value := fun x => #[.int .i64 ((min x.1 (m - 1) : Nat) : Int), .int .i64 (x.2 : Int)]
set_option maxHeartbeats 2000000 in
theorem dealt1_in (F : Fence) (n : Nat) (h90 : F.fn 90) (hro : F.round = none) (hn : 1 ≤ n) (l : Nat) (kb n₀ m cap b : Nat) (A : Option Addr) (t : List Pg) (hok : t.all ptOk = true) (hm : m = t.length) (hm8 : m ≤ 8) (J Jx : List (Nat × Nat) → World → Prop)
    (hY : ∀ pre x W, J pre W → pre.length < 200 → YieldAt F (n - 1) Try.prog l (denc m x) W fun e W' =>
      (e = .returned (.bool true) ∧ J (pre ++ [x]) W' ∧ Below n₀ W W') ∨ (e = .returned (.bool false) ∧ Jx (pre ++ [x]) W'))
    (W : World) (hJ : AbidesFrom W.heap.size J) (hkb : W.cell? ⟨kb, 0, none⟩ = some (.slice A m cap)) (ht : Tb W b (.slice A m cap) t) (hb : b < n₀) (hn₀ : n₀ ≤ W.heap.size) (h0 : J [] W) :
    CallsIn F n Try.prog 90 #[.func (.yield l) #[] #[], ptr kb] W fun e W' => (∃ v, e = .returned v) ∧
      ((∃ ys, ys = dlt t m 0 ∧ J ys W') ∨ (∃ pre, (∃ p k, pre = dlt t p k) ∧ Jx pre W')) := by
  refine callsIn_of_wp Try.func90 rfl h90 ?_ hro
  simp only [Try.ntmps90, List.size_toArray, List.length_cons, List.length_nil, Nat.reduceAdd, Nat.reduceSub, Array.replicate_succ, Array.replicate_zero, List.push_toArray, List.append_toArray, List.nil_append, List.cons_append]
  have Hm := Lib.hid hm
  have Ht := Lib.hid ht
  have HOk := Lib.hid hok
  clear hm ht hok
  gi_wp2
  gi_loopw [3, 8] (fun fr i wr => ∃ (p : Nat), p ≤ m ∧ i = .int .i64 (p : Int) ∧ fr = .int .i64 (tot t p : Int) ∧ J (dlt t p 0) wr ∧ Below n₀ W wr ∧ W.heap.size ≤ wr.heap.size)
    (fun _ i _ => m - (intOf i).toNat)
  case atStart => exact ⟨0, Nat.zero_le _, rfl, rfl, h0, Below.refl _ _, Nat.le_refl _⟩
  case round =>
    obtain ⟨p, hp, rfl, rfl, hJs, hnx, hsz⟩ := hrel
    have hbt := tot_le HOk.out p
    by_cases hlt : p < m
    · obtain ⟨⟨lv, pg⟩, hx⟩ : ∃ x, t[p]? = some x := ⟨_, List.getElem?_eq_getElem (by have := Hm.out; omega)⟩
      obtain ⟨off, hA', hbl, c0, c1⟩ := Ht.out.at_ hx
      subst hA'
      have d0 := (hnx.cell (p := ⟨b, off + p * 2, none⟩) hb).trans c0
      have d1 := (hnx.cell (p := ⟨b, off + p * 2 + 1, none⟩) hb).trans c1
      simp only at d0 d1
      obtain ⟨hg1, hg2, hg3⟩ := ptOk_all HOk.out hx
      simp only at hg1 hg2 hg3
      obtain ⟨pn, rfl⟩ : ∃ pn : Nat, pg = (pn : Int) := ⟨pg.toNat, by omega⟩
      have hrn : rN t p = pn := by rw [hg3]; exact Int.toNat_natCast pn
      have hJa := hJ _ wr (wr.alloc (.cells #[.int .i64 lv, .int .i64 (pn : Int)] 100)) none hJs (World.grownBy_alloc wr _ none) (fun r e => by cases e)
      have Hrn := Lib.hid hrn
      have hnx2 : Below n₀ W (wr.alloc (.cells #[.int .i64 lv, .int .i64 (pn : Int)] 100)) := hnx.alloc (by omega) _
      have hsz2 : W.heap.size ≤ (wr.alloc (.cells #[.int .i64 lv, .int .i64 (pn : Int)] 100)).heap.size := by rw [World.size_alloc]; omega
      have hp16 : pn ≤ 16 := by omega
      clear hx c0 c1 hg1 hg2 hg3 hrn hJs
      gi_wp2
      gi_loopw [3, 15] (fun fr i wv => ∃ (k : Nat), k ≤ pn ∧ i = .int .i64 (k : Int) ∧ fr = .int .i64 ((tot t p + k : Nat) : Int) ∧ J (dlt t p k) wv ∧ Below n₀ W wv ∧ W.heap.size ≤ wv.heap.size)
        (fun _ i _ => pn - (intOf i).toNat)
      case atStart => exact ⟨0, Nat.zero_le _, rfl, rfl, hJa, hnx2, hsz2⟩
      case round =>
        obtain ⟨k, hk, rfl, rfl, hJs, hnx, hsz⟩ := hrel
        by_cases hlk : k < pn
        · obtain ⟨fn, tmps, assign, body, hy, hR⟩ := hY _ (p, tot t p + k) _ hJs (by rw [dlt_len]; omega)
          have henc : denc m (p, tot t p + k) = #[.int .i64 (p : Int), .int .i64 ((tot t p + k : Nat) : Int)] := by
            unfold denc
            rw [Nat.min_eq_left (by simp only; omega)]
          rw [henc] at hy
          have HD := Lib.hid (dlt_next t p k)
          rw [← HD.out] at hR
          have hwf : IntKind.i64.wrap (((tot t p + k : Nat) : Int) + 1) = ((tot t p + k : Nat) : Int) + 1 := IntWalk.i64_in _ (by omega)
          have hcast : Hid (((tot t p + k : Nat) : Int) + 1 = ((tot t p + (k + 1) : Nat) : Int)) := Lib.hid (by omega)
          clear henc hbt
          generalize ((tot t p + k : Nat) : Int) = tk at *
          gi_wp2
          refine hR.mono ?_
          rintro e W3 (⟨rfl, hJ3, hk3⟩ | ⟨rfl, hJx3⟩)
          · have hz3 := hk3.size
            gi_wp2
            go_roundw
            case rel => exact ⟨k + 1, by omega, by go_num, by rw [hcast.out], hJ3, hnx.trans hk3, by omega⟩
            case measure => simp [intOf]; omega
          · gi_wp2
            refine bodyPost_ret (results_none rfl _ _ _) rfl ?_
            exact ⟨⟨_, rfl⟩, .inr ⟨_, ⟨p, k + 1, rfl⟩, hJx3⟩⟩
        · have hkp : k = pn := by omega
          subst hkp
          have hrow := dlt_row t p
          rw [Hrn.out] at hrow
          have Hrow := Lib.hid hrow
          have HT := Lib.hid (show ((tot t p + k : Nat) : Int) = ((tot t (p + 1) : Nat) : Int) by rw [tot_succ, Hrn.out])
          clear hrow
          rw [HT.out]
          gi_wp2
          go_roundw
          case rel => exact ⟨p + 1, by omega, by go_num, rfl, by rw [Hrow.out]; exact hJs, hnx, hsz⟩
          case measure => simp [intOf]; omega
    · have hpm : p = m := by omega
      subst hpm
      gi_wp2
      go_end0
      exact ⟨⟨_, rfl⟩, .inl ⟨_, rfl, hJs⟩⟩
theorem dealt_stops (F : Fence) (nf : Nat) (h90 : F.fn 90) (hro : F.round = none) (hn : 1 ≤ nf) (kb n₀ m cap b : Nat) (A : Option Addr) (t : List Pg) (hok : t.all ptOk = true) (hm : m = t.length) (hm8 : m ≤ 8) (w : World) (hkb : Blk w kb 22 #[.slice A m cap]) (ht : Tb w b (.slice A m cap) t) (hb : b < n₀) (hn₀ : n₀ ≤ w.heap.size) :
    SeqStopsK F nf Try.prog 90 #[ptr kb] (denc m) (Below n₀) (fun ys => ys = dlt t m 0) (fun pre => ∃ p k, pre = dlt t p k) 200 w := fun l J Jx W hW hJ _ hY h0 =>
  dealt1_in F nf h90 hro hn l kb n₀ m cap b A t hok hm hm8 J Jx hY W hJ ((hkb.below hW hkb.lt).cell 0) (ht.fr (Fr.of_below (S := []) hW (Nat.le_refl _)) (by simp)) hb (Nat.le_trans hn₀ hW.size) h0
theorem dealt_any (A : Option Addr) (m cap : Nat) (w : World) : Calls Try.prog 57 #[.slice A m cap] w fun e w' => e = .returned (.func (.func 90) #[] #[ptr w.heap.size]) ∧ w' = w.alloc (.cells #[.slice A m cap] 22) := by
  go_enter Try.func57, Try.ntmps57
  go_wp2
  go_ret
  exact ⟨rfl, rfl⟩
end Go.Proofs.Ytonongaakieciaa

/- The program's disk: left, Image, After. -/
import Derived.Test.YthmnloapjdalpaaW4
import Derived.Deep.AppendLies
namespace Go.Proofs.Ythmnloapjdalpaa
open Go.RowKit Go.Maps
set_option linter.unusedVariables false
set_option linter.unusedSimpArgs false
/-- A text laid over bytes. -/
def ov (l : Nat → UInt8) (o : Nat) (s : List UInt8) : Nat → UInt8 := fun j => if o ≤ j ∧ j < o + s.length then (s[j - o]?).getD 0 else l j
theorem ov_in {l : Nat → UInt8} {o : Nat} {s : List UInt8} {j : Nat} (h1 : o ≤ j) (h2 : j < o + s.length) : ov l o s j = (s[j - o]?).getD 0 := if_pos ⟨h1, h2⟩
theorem ov_out {l : Nat → UInt8} {o : Nat} {s : List UInt8} {j : Nat} (h : j < o ∨ o + s.length ≤ j) : ov l o s j = l j := if_neg (by omega)
theorem Wb.setCells {g n : Nat} : ∀ (s : List UInt8) (o : Nat) (l : Nat → UInt8) (w : World), Wb w g n l → Wb (w.setCells g o (s.map fun x => Value.int .u8 (x.toNat : Int))) g n (ov l o s) := by
  intro s
  induction s with
  | nil =>
    intro o l w h
    exact h.ext (fun i _ => by rw [ov_out (by simp; omega)])
  | cons c s ih =>
    intro o l w h
    have := ih (o + 1) (upd l o c) _ (h.set_ (o := o) c)
    refine Wb.ext (l := ov (upd l o c) (o + 1) s) this (fun i _ => ?_)
    by_cases h1 : i = o
    · subst h1
      rw [ov_out (by omega), upd_same, ov_in (by omega) (by simp)]
      simp
    · by_cases h2 : o + 1 ≤ i ∧ i < o + 1 + s.length
      · rw [ov_in h2.1 h2.2, ov_in (by omega) (by simp; omega)]
        rw [show i - o = (i - (o + 1)) + 1 from by omega, List.getElem?_cons_succ]
      · rw [ov_out (by omega), upd_ne h1, ov_out (by simp; omega)]
theorem Fr.setCells {S : List Nat} {w : World} {g : Nat} (hg : g ∈ S ∨ w.heap.size ≤ g) : ∀ (vs : List Value) (k : Nat) (w' : World), Fr S w w' → Fr S w (w'.setCells g k vs) := by
  intro vs
  induction vs with
  | nil => intro k w' h; exact h
  | cons v vs ih => intro k w' h; exact ih _ _ (h.setCell hg v)
theorem image1_any (i : Value) (w : World) : Calls Try.prog 68 #[i] w fun e w' => e = .returned (.int .i64 128) ∧ w = w' := by
  go_enter Try.func68, Try.ntmps68
  go_wp2
  go_ret
  exact ⟨rfl, rfl⟩
theorem after1_any (k b : Nat) (A : Option Addr) (n cap : Nat) (l : List Int) (w : World) (h : Zw w (.slice A n cap) l) (hb : w.cell? ⟨b, 0, none⟩ = some (.slice A n cap)) :
    Calls Try.prog 90 #[.int .i64 k, ptr b] w fun e w' => e = .returned (.int .i64 (chAt l k)) ∧ w = w' := by
  obtain ⟨hn, h1, h2⟩ := h.len
  by_cases hk : k < n
  · have hk' : (k : Int) < (n : Int) := by omega
    have hk0 : (0 : Int) ≤ (k : Int) := by omega
    obtain ⟨x, hx⟩ : ∃ x, l[k]? = some x := ⟨_, List.getElem?_eq_getElem (by omega)⟩
    obtain ⟨q, o, rfl, hq, c0⟩ := h.cell hx
    have E := Lib.hid (show chAt l k = x by unfold chAt; rw [hx]; rfl)
    clear h hx hn
    go_enter Try.func90, Try.ntmps90
    go_wp2
    go_ret
    exact ⟨ret_int E.out.symm, rfl⟩
  · have hk' : ¬ (k : Int) < (n : Int) := by omega
    have E := Lib.hid (show chAt l k = 0 by unfold chAt; rw [List.getElem?_eq_none (by omega)]; rfl)
    clear h hn
    go_enter Try.func90, Try.ntmps90
    go_wp2
    go_ret
    exact ⟨ret_int E.out.symm, rfl⟩
/-- What lies there while some are still to come. -/
def part (d : Dk) (c : Nat → Int) (lf : Lit → Bool) : Nat → UInt8 := fun j => if lf (.int .i64 ((j / 128 : Nat) : Int)) = true then d.s j else leftB d c j
theorem part_step {d : Dk} (hok : d.Ok) {c : Nat → Int} {lf : Lit → Bool} {k : Nat} {t : ByteArray} (hk : d.u k = some t) (hl : lf (.int .i64 (k : Int)) = true) (j : Nat) :
    ov (part d c lf) (k * 128) ((t.extract 0 (clamp (c k))).data.toList) j = part d c (fun z => lf z && !z.sameKey (.int .i64 (k : Int))) j := by
  obtain ⟨hkn, ht⟩ := hok.un k t hk
  have hcl := clamp_le (c k)
  have hlen : (t.extract 0 (clamp (c k))).data.toList.length = clamp (c k) := by
    have : (t.extract 0 (clamp (c k))).data.toList.length = (t.extract 0 (clamp (c k))).size := rfl
    rw [this, ByteArray.size_extract]
    omega
  by_cases hj : j / 128 = k
  · have hs : (Lit.int .i64 ((j / 128 : Nat) : Int)).sameKey (.int .i64 (k : Int)) = true := by rw [hj]; exact WideAt.sameKey_self (keyLit _)
    have e1 : part d c (fun z => lf z && !z.sameKey (.int .i64 (k : Int))) j = leftB d c j := by
      unfold part
      rw [if_neg (by show ¬ (lf _ && !Lit.sameKey _ _) = true; rw [hs]; simp)]
    have e2 : part d c lf j = d.s j := by
      unfold part
      rw [hj, if_pos hl]
    rw [e1]
    unfold leftB
    rw [hj, hk]
    by_cases h1 : j % 128 < clamp (c k)
    · simp only [if_pos h1]
      rw [ov_in (by omega) (by omega)]
      have h3 : j - k * 128 = j % 128 := by omega
      rw [h3]
      unfold at8
      congr 1
      rw [ByteArray.data_extract, Array.toList_extract, List.extract, List.drop_zero, List.getElem?_take, if_pos (by omega)]
      simp
    · simp only [if_neg h1]
      rw [ov_out (by omega), e2]
  · have hs : (Lit.int .i64 ((j / 128 : Nat) : Int)).sameKey (.int .i64 (k : Int)) = false := sameKey_ne (lit_ne hj)
    rw [ov_out (by omega)]
    unfold part
    simp only [hs, Bool.not_false, Bool.and_true]
def LeftP (w : World) (d : Dk) (c : Nat → Int) (e : Ending) (w' : World) : Prop := e = .returned (.string (bs (leftB d c) 0 (128 * d.n))) ∧ Fr [] w w'
end Go.Proofs.Ythmnloapjdalpaa

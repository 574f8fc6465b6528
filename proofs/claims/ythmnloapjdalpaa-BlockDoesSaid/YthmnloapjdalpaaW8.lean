/- The program's disk: left, Image, After. The program's disk: left. The program's disk: Image, After, goes, Revive, dies. The program's disk: dies, Crash. -/
import Derived.Test.YthmnloapjdalpaaW4
import Derived.Deep.AppendLies
import Derived.IntWalk
namespace Go.Proofs.Ythmnloapjdalpaa
open Go.RowKit Go.Maps
set_option linter.unusedVariables false
set_option linter.unusedSimpArgs false
/-- A text laid over bytes. -/
def ov (l : Nat → UInt8) (o : Nat) (s : List UInt8) : Nat → UInt8 := fun j => if o ≤ j ∧ j < o + s.length then (s[j - o]?).getD 0 else l j
theorem ov_in {l : Nat → UInt8} {o : Nat} {s : List UInt8} {j : Nat} (h1 : o ≤ j) (h2 : j < o + s.length) : ov l o s j = (s[j - o]?).getD 0 := if_pos ⟨h1, h2⟩
theorem ov_out {l : Nat → UInt8} {o : Nat} {s : List UInt8} {j : Nat} (h : j < o ∨ o + s.length ≤ j) : ov l o s j = l j := if_neg (by omega)
theorem Wb.setCells {g n : Nat} : ∀ (s : List UInt8) (o : Nat) (l : Nat → UInt8) (w : World), Wb w g n l → Wb (w.setCells g o (s.map fun x => Value.int .u8 (x.toNat : Int))) g n (ov l o s) := by
  intro s
  induction s with
  | nil =>
    intro o l w h
    exact h.ext (fun i _ => by rw [ov_out (by simp; omega)])
  | cons c s ih =>
    intro o l w h
    have := ih (o + 1) (upd l o c) _ (h.set_ (o := o) c)
    refine Wb.ext (l := ov (upd l o c) (o + 1) s) this (fun i _ => ?_)
    by_cases h1 : i = o
    · subst h1
      rw [ov_out (by omega), upd_same, ov_in (by omega) (by simp)]
      simp
    · by_cases h2 : o + 1 ≤ i ∧ i < o + 1 + s.length
      · rw [ov_in h2.1 h2.2, ov_in (by omega) (by simp; omega)]
        rw [show i - o = (i - (o + 1)) + 1 from by omega, List.getElem?_cons_succ]
      · rw [ov_out (by omega), upd_ne h1, ov_out (by simp; omega)]
theorem Fr.setCells {S : List Nat} {w : World} {g : Nat} (hg : g ∈ S ∨ w.heap.size ≤ g) : ∀ (vs : List Value) (k : Nat) (w' : World), Fr S w w' → Fr S w (w'.setCells g k vs) := by
  intro vs
  induction vs with
  | nil => intro k w' h; exact h
  | cons v vs ih => intro k w' h; exact ih _ _ (h.setCell hg v)
theorem image1_any (i : Value) (w : World) : Calls Try.prog 68 #[i] w fun e w' => e = .returned (.int .i64 128) ∧ w = w' := by
  go_enter Try.func68, Try.ntmps68
  go_wp2
  go_ret
  exact ⟨rfl, rfl⟩
theorem after1_any (k b : Nat) (A : Option Addr) (n cap : Nat) (l : List Int) (w : World) (h : Zw w (.slice A n cap) l) (hb : w.cell? ⟨b, 0, none⟩ = some (.slice A n cap)) :
    Calls Try.prog 90 #[.int .i64 k, ptr b] w fun e w' => e = .returned (.int .i64 (chAt l k)) ∧ w = w' := by
  obtain ⟨hn, h1, h2⟩ := h.len
  by_cases hk : k < n
  · have hk' : (k : Int) < (n : Int) := by omega
    have hk0 : (0 : Int) ≤ (k : Int) := by omega
    obtain ⟨x, hx⟩ : ∃ x, l[k]? = some x := ⟨_, List.getElem?_eq_getElem (by omega)⟩
    obtain ⟨q, o, rfl, hq, c0⟩ := h.cell hx
    have E := Lib.hid (show chAt l k = x by unfold chAt; rw [hx]; rfl)
    clear h hx hn
    go_enter Try.func90, Try.ntmps90
    go_wp2
    go_ret
    exact ⟨ret_int E.out.symm, rfl⟩
  · have hk' : ¬ (k : Int) < (n : Int) := by omega
    have E := Lib.hid (show chAt l k = 0 by unfold chAt; rw [List.getElem?_eq_none (by omega)]; rfl)
    clear h hn
    go_enter Try.func90, Try.ntmps90
    go_wp2
    go_ret
    exact ⟨ret_int E.out.symm, rfl⟩
/-- What lies there while some are still to come. -/
def part (d : Dk) (c : Nat → Int) (lf : Lit → Bool) : Nat → UInt8 := fun j => if lf (.int .i64 ((j / 128 : Nat) : Int)) = true then d.s j else leftB d c j
theorem part_step {d : Dk} (hok : d.Ok) {c : Nat → Int} {lf : Lit → Bool} {k : Nat} {t : ByteArray} (hk : d.u k = some t) (hl : lf (.int .i64 (k : Int)) = true) (j : Nat) :
    ov (part d c lf) (k * 128) ((t.extract 0 (clamp (c k))).data.toList) j = part d c (fun z => lf z && !z.sameKey (.int .i64 (k : Int))) j := by
  obtain ⟨hkn, ht⟩ := hok.un k t hk
  have hcl := clamp_le (c k)
  have hlen : (t.extract 0 (clamp (c k))).data.toList.length = clamp (c k) := by
    have : (t.extract 0 (clamp (c k))).data.toList.length = (t.extract 0 (clamp (c k))).size := rfl
    rw [this, ByteArray.size_extract]
    omega
  by_cases hj : j / 128 = k
  · have hs : (Lit.int .i64 ((j / 128 : Nat) : Int)).sameKey (.int .i64 (k : Int)) = true := by rw [hj]; exact WideAt.sameKey_self (keyLit _)
    have e1 : part d c (fun z => lf z && !z.sameKey (.int .i64 (k : Int))) j = leftB d c j := by
      unfold part
      rw [if_neg (by show ¬ (lf _ && !Lit.sameKey _ _) = true; rw [hs]; simp)]
    have e2 : part d c lf j = d.s j := by
      unfold part
      rw [hj, if_pos hl]
    rw [e1]
    unfold leftB
    rw [hj, hk]
    by_cases h1 : j % 128 < clamp (c k)
    · simp only [if_pos h1]
      rw [ov_in (by omega) (by omega)]
      have h3 : j - k * 128 = j % 128 := by omega
      rw [h3]
      unfold at8
      congr 1
      rw [ByteArray.data_extract, Array.toList_extract, List.extract, List.drop_zero, List.getElem?_take, if_pos (by omega)]
      simp
    · simp only [if_neg h1]
      rw [ov_out (by omega), e2]
  · have hs : (Lit.int .i64 ((j / 128 : Nat) : Int)).sameKey (.int .i64 (k : Int)) = false := sameKey_ne (lit_ne hj)
    rw [ov_out (by omega)]
    unfold part
    simp only [hs, Bool.not_false, Bool.and_true]
def LeftP (w : World) (d : Dk) (c : Nat → Int) (e : Ending) (w' : World) : Prop := e = .returned (.string (bs (leftB d c) 0 (128 * d.n))) ∧ Fr [] w w'
end Go.Proofs.Ythmnloapjdalpaa
namespace Go.Proofs.Ythmnloapjdalpaa
open Go.RowKit Go.Maps
set_option linter.unusedVariables false
set_option linter.unusedSimpArgs false
theorem ranges_fr {w w' : World} {m r n cnt : Nat} {D : DataW Unit} {lf : Lit → Bool} {S : List Nat} (h : w.ranges Try.prog 3 (plainElem Try.prog 9) m r n D lf cnt) (hf : Fr S w w') (h1 : m ∉ S) (h2 : r ∉ S) :
    w'.ranges Try.prog 3 (plainElem Try.prog 9) m r n D lf cnt := by
  have e1 := hf.block m h.owns.lt h1
  have e2 := hf.block r h.lt h2
  obtain ⟨es, clock, since, seen, c0, hb, F, hs, hD, hr, rest⟩ := h
  exact ⟨es, clock, since, seen, c0, e1.trans hb, F, hs, hD, e2.trans hr, rest⟩
set_option maxRecDepth 100000 in
set_option maxHeartbeats 1000000 in
theorem left_any (p g m : Nat) (F : FuncId) (caps : Array Value) (d : Dk) (c : Nat → Int) (w : World) (h : DiskAt w p g m d)
    (eF : ∀ args W, (callFunc F args).run Try.prog W = .ok (.enter F args) W)
    (hC : ∀ (k : Nat) (W : World), k < d.n → Fr [] w W → Calls Try.prog F (#[.int .i64 k] ++ caps) W fun e w' => e = .returned (.int .i64 (c k)) ∧ W = w') :
    Calls Try.prog 67 #[ptr p, .func (.func F) #[] caps] w (LeftP w d c) := by
  obtain ⟨cap, cv, ⟨c0, c1, c2, c3, c4, fz⟩, hc, hm, hz⟩ := h.cells
  have hn := h.ok.n2
  have H := Lib.hid h
  have HC := Lib.hid hC
  have hK := Lib.hid (cloneB_any g cap (128 * d.n) d.s w h.sb (by omega))
  obtain ⟨N, hN⟩ : ∃ N, 128 * d.n = N := ⟨_, rfl⟩
  have HN := Lib.hid hN
  rw [hN] at hc hK c0
  clear h c2 c3 c4 fz hz hC hN
  go_enter Try.func67, Try.ntmps67
  go_wp2_with (first
    | (go_at_call 74; refine hK.out.mono ?_; rintro e w1 ⟨G, cp, rfl, hWb, hf1, hG, hcp1, hcp2⟩
       have c1' := hf1.cell_some c1 (by simp)
       have ho1 := (H.out.to hf1).um)
    | (at_range; obtain ⟨hn1, D1, ho1', h11, h12, h13⟩ := ho1; refine wpList_range_own _ rfl _ 108 rfl 3 9 law3 Try.underlying108 _ m _ _ rfl ho1' ?_; intro w0 hrg0 hg0 hs0)
    | go_in)
  go_frame
  have HD := Lib.hid (show _ ∧ _ ∧ _ from ⟨h11, h12, h13⟩)
  have Hf0 : Hid (Fr [] w w0) := Lib.hid (hf1.trans (Fr.of_grown hg0 (fun k hk => by cases hk)))
  have HW0 : Hid (Wb w0 G N (part d c (Maps.has D1))) := Lib.hid ((by
    have h4 := hWb.fr (S := []) (Fr.of_grown hg0 (fun k hk => by cases hk)) (by simp)
    refine h4.ext (fun i hi => ?_)
    unfold part
    rw [HD.out.2.1]
    unfold leftB
    cases hu : d.u (i / 128) with
    | none => rfl
    | some t => rfl))
  have hs1 := hf1.size
  have hGl := hWb.lt
  have Hl := Lib.hid (show w.heap.size ≤ G ∧ G < w1.heap.size ∧ w.heap.size ≤ w1.heap.size from ⟨hG, hGl, hs1⟩)
  clear h11 h12 h13 ho1' hf1 hWb hg0 hs0 hG hGl hs1 c1 c1' hK c0
  generalize w1.heap.size = r at *
  go_loopw [6] (fun _ wr => ∃ (lf : Lit → Bool) (cnt : Nat), wr.ranges Try.prog 3 (plainElem Try.prog 9) m r d.n D1 lf cnt ∧ Wb wr G N (part d c lf) ∧ Fr [] w wr)
    (fun _ wr => wr.rangeLeft m r)
  case atStart => exact ⟨_, _, hrg0, HW0.out, Hf0.out⟩
  case round =>
    obtain ⟨lf, cnt, hrg, hwb, hfr⟩ := hrel
    have Hwb := Lib.hid hwb
    have Hfr := Lib.hid hfr
    clear hwb hfr HW0 Hf0 hrg0
    go_wp2_with (first
      | (at_next; refine wpList_next_ranges_is _ rfl _ rfl 3 9 .i64 law3 Try.underlying3 Try.underlying9 m r d.n _ _ _ rfl hrg ?_ ?_)
      | go_in)
    · intro hc0 hl0
      have hcv := conv_wb (o := 0) (n := N) (cap := cp) Hwb.out (by omega)
      have E : Hid (bs (part d c lf) 0 N = bs (leftB d c) 0 (128 * d.n)) := Lib.hid (by
        rw [HN.out]
        refine bs_congr (fun i hi => ?_)
        unfold part
        rw [hl0]
        rfl)
      generalize bs (part d c lf) 0 N = X at *
      go_wp2
      go_ret
      refine ⟨?_, Hfr.out⟩
      rw [← E.out]
      rfl
    · intro x t w2 cnt1 hwx hwc hlx hat hrg1 hlt hg1 hs1 hen
      obtain ⟨k, hkn, hxk⟩ := HD.out.1 _ (has_true_of_atKey hat)
      obtain rfl : x = (k : Int) := (Lit.int.inj hxk).2
      obtain ⟨s, hus⟩ : ∃ s, d.u k = some s := by
        have h1 := HD.out.2.1 k
        rw [has_true_of_atKey hat] at h1
        exact Option.isSome_iff_exists.1 h1.symm
      obtain rfl : s = t := by
        have h1 := ((HD.out.2.2 k s hus).2 .nil).symm.trans (hat .nil)
        exact list_string (Lit.string.inj (DataW.lit.inj h1))
      have hts := (H.out.ok.un k s hus).2
      have hcl := clamp_le (c k)
      have hci := clamp_int (c k)
      have sl1 := fun wx => slice_l wx G 0 N cp (k * 128) ((k : Int) * 128) (by omega) (by have := HN.out; omega) (by omega)
      rw [Nat.zero_add] at sl1
      have sl2 : ∀ wx, (Instr.slice 9 (.string s) none (some (.int .i64 (clamp (c k) : Int))) none).run Try.prog wx = .ok (.string (s.extract 0 (clamp (c k)))) wx := fun wx => by
        rw [run_slice_string_to_if (P := Try.prog) wx 9 s .i64 _ Try.underlying9, if_pos (by omega)]
        simp
      obtain ⟨mx, hmx⟩ : ∃ mx, (if 0 < c k then c k else 0) = mx := ⟨_, rfl⟩
      have hmn : (if 128 < mx then 128 else mx) = (clamp (c k) : Int) := by
        rw [← hmx, hci]
        split <;> split <;> omega
      have Hsz : Hid ((s.extract 0 (clamp (c k))).size ≤ N - k * 128) := Lib.hid (by
        rw [ByteArray.size_extract]
        have := HN.out
        omega)
      have Hst := Lib.hid (fun j => part_step (c := c) H.out.ok hus hlx j)
      have hcC := Lib.hid (fun W hf => HC.out k W hkn hf)
      obtain ⟨X, hX⟩ : ∃ X, s.extract 0 (clamp (c k)) = X := ⟨_, rfl⟩
      rw [hX] at sl2 Hsz Hst
      obtain ⟨cl, hcle⟩ : ∃ cl, clamp (c k) = cl := ⟨_, rfl⟩
      rw [hcle] at sl2 hmn
      obtain ⟨ck, hck⟩ : ∃ ck, c k = ck := ⟨_, rfl⟩
      rw [hck] at hmx hcC
      have Hkn := Lib.hid hkn
      have hb1 : (k : Int) < 9223372036854775807 / 128 := by omega
      have HR1 := Lib.hid hrg1
      have Hlt := Lib.hid hlt
      have HRG := Lib.hid hrg
      have hfr2 : Fr [] w w2 := Hfr.out.step (Fr.of_grown hg1 (S := [r]) (fun i hi => by cases hi; simp)) (fun i hi => by
        simp at hi
        subst hi
        have := Hl.out
        omega)
      have hwb2 : Wb w2 G N (part d c lf) := Hwb.out.fr (Fr.of_grown hg1 (S := [r]) (fun i hi => by cases hi; simp)) (by have := Hl.out; simp; omega)
      have Hf2 := Lib.hid hfr2
      have Hw2 := Lib.hid hwb2
      clear hrg1 hrg hlt hg1 hs1 hat hxk hus hts hX hcle hck hci hcl hfr2 hwb2
      have m1 : IntKind.i64.wrap ((k : Int) * 128) = (k : Int) * 128 := IntWalk.i64_in _ (by omega)
      go_wp2_with fail
      have Hcc : Hid (∀ j, j < X.size → (w2.drew.cell? ⟨G, k * 128 + j, none⟩).isSome = true) := Lib.hid (fun j hj => by
        have h1 := Hsz.out
        rw [show w2.drew.cell? ⟨G, k * 128 + j, none⟩ = w2.cell? ⟨G, k * 128 + j, none⟩ from rfl, Hw2.out.cell (by omega)]
        rfl)
      have Hcf : Hid (∀ j, j < X.size → w2.drew.frozen? ⟨G, k * 128 + j, none⟩ = false) := Lib.hid (fun j hj => by
        have h1 := Hsz.out
        exact Hw2.out.frozen (by omega))
      go_region_held3 (fun _ => True) (trivial) (first
        | (refine (hcC.out _ (Hf2.out.drew)).mono ?_; rintro e w3 ⟨rfl, rfl⟩)
        | (refine step_copy_string rfl (.tmp 26) (.tmp 33) 30 9 rfl 5 Try.underlying30 sizeOf5 G (k * 128) (N - k * 128) (cp - k * 128) rfl X rfl Hsz.out Hcc.out Hcf.out ?_))
      have hfG : Fr [G] w2 (w2.drew.setCells G (k * 128) (X.data.toList.map fun x => Value.int .u8 (x.toNat : Int))) := Fr.setCells (.inl (by simp)) _ _ _ (Fr.refl _ _).drew
      have hGm : m ∉ [G] := by have := H.out.ltm; have := Hl.out; simp; omega
      have hGr : r ∉ [G] := by have := Hl.out; simp; omega
      have hrN := ranges_fr HR1.out hfG hGm hGr
      have hwN : Wb (w2.drew.setCells G (k * 128) (X.data.toList.map fun x => Value.int .u8 (x.toNat : Int))) G N (part d c (fun z => lf z && !z.sameKey (.int .i64 (k : Int)))) := (Wb.setCells _ _ _ _ (Hw2.out.fr (S := []) ((Fr.refl [] w2).drew) (by simp))).ext (fun i _ => Hst.out i)
      have hfN : Fr [] w (w2.drew.setCells G (k * 128) (X.data.toList.map fun x => Value.int .u8 (x.toNat : Int))) := Fr.setCells (.inr (by have := Hl.out; omega)) _ _ _ Hf2.out.drew
      generalize w2.drew.setCells G (k * 128) (X.data.toList.map fun x => Value.int .u8 (x.toNat : Int)) = W at *
      go_wp2_with fail
      go_roundw
      case rel => exact ⟨_, _, hrN, hwN, hfN⟩
      case measure => rw [hrN.left_eq, HRG.out.left_eq]; exact Hlt.out
end Go.Proofs.Ythmnloapjdalpaa
namespace Go.Proofs.Ythmnloapjdalpaa
open Go.RowKit
set_option linter.unusedVariables false
set_option linter.unusedSimpArgs false
theorem ret_str {a b : ByteArray} (h : a = b) : Ending.returned (.string a) = .returned (.string b) := by rw [h]
theorem enter68 (args : Array Value) (W : World) : (callFunc 68 args).run Try.prog W = .ok (.enter 68 args) W := by kernel_rfl
theorem enter90 (args : Array Value) (W : World) : (callFunc 90 args).run Try.prog W = .ok (.enter 90 args) W := by kernel_rfl
theorem image_bs (d : Dk) : bs (leftB d (fun _ => 128)) 0 (128 * d.n) = d.image := by rw [left_rd]; rfl
theorem Image_any (p g m : Nat) (d : Dk) (w : World) (h : DiskAt w p g m d) : Calls Try.prog 28 #[ptr p] w fun e w' => e = .returned (.string d.image) ∧ Fr [] w w' := by
  have hL := Lib.hid (fun (W : World) (hf : Fr [] w W) => left_any p g m 68 #[] d (fun _ => 128) W (h.to hf) enter68 (fun k W' _ _ => image1_any _ _))
  have E := Lib.hid (image_bs d)
  clear h
  generalize d.image = V at *
  go_enter Try.func28, Try.ntmps28
  go_wp2_with (go_at_call 67; refine (hL.out _ (Fr.refl _ _)).mono ?_; rintro e w' ⟨rfl, hf⟩)
  go_ret
  exact ⟨ret_str E.out, hf⟩
theorem After_any (p g m : Nat) (d : Dk) (A : Option Addr) (n cap : Nat) (l : List Int) (w : World) (h : DiskAt w p g m d) (hz : Zw w (.slice A n cap) l) :
    Calls Try.prog 49 #[ptr p, .slice A n cap] w fun e w' => e = .returned (.string (d.after l)) ∧ Fr [] w w' := by
  have hL := Lib.hid (fun (W : World) (hf : Fr [] (w.alloc (.cells #[.slice A n cap] 42)) W) => left_any p g m 90 #[ptr w.heap.size] d (chAt l) W (h.to (((Fr.refl [] w).alloc _).trans hf)) enter90 (fun k W' _ hf' =>
    after1_any k w.heap.size A n cap l W' (hz.fr (((Fr.refl [] w).alloc _).trans (hf.trans hf')) (NoZ.nil _)) ((hf.trans hf').cell_some (by rw [(Blk.new w 42 #[.slice A n cap]).cell]; rfl) (by simp))))
  have E := Lib.hid (show bs (leftB d (chAt l)) 0 (128 * d.n) = d.after l from rfl)
  have hF := Lib.hid ((Fr.refl [] w).alloc (.cells #[.slice A n cap] 42))
  clear h hz
  generalize d.after l = V at *
  go_enter Try.func49, Try.ntmps49
  go_wp2_with (go_at_call 67; refine (hL.out _ (Fr.refl _ _)).mono ?_; rintro e w' ⟨rfl, hf⟩)
  go_ret
  exact ⟨ret_str E.out, hF.out.trans hf⟩
/-- A disk that has turned: its struct where it was, its bytes and its map perhaps new. -/
def Turned (p g m : Nat) (w : World) (d : Dk) (w' : World) : Prop := ∃ g' m', DiskAt w' p g' m' d ∧ Fr [p, g, m] w w' ∧ (g' = g ∨ w.heap.size ≤ g') ∧ (m' = m ∨ w.heap.size ≤ m')
theorem Zs.cells {w : World} {p : Nat} {v : Value} {l : List Int} {cs : Array Value} (h : Zs w v l) (hb : Blk w p 110 cs) : ∀ i u, Zs (w.setCell ⟨p, i, none⟩ u) v l := fun i u =>
  h.fr (S := [p]) ((Fr.refl _ w).setCell (.inl (by simp)) u) (fun k hk cs mk he => by
    simp only [List.mem_cons, List.not_mem_nil, or_false] at hk
    subst hk
    unfold Blk at hb
    rw [hb] at he
    injection he with he
    injection he with _ he _
    cases he)
theorem DiskAt.with_ {w w' : World} {p g m n : Nat} {d d' : Dk} {cap : Nat} {cv : Value} {cs : Array Value} (h : DiskAt w p g m d) (hf : Fr [p] w w') (hok : d'.Ok) (hn : d'.n = d.n) (hs : d'.s = d.s) (hu : d'.u = d.u)
    (hb : Blk w' p 110 #[.slice (some ⟨g, 0, none⟩) (128 * d.n) cap, .map (some m), .int .i64 d'.armed, cv, .bool d'.dead]) (h1 : 128 * d.n ≤ cap) (h2 : cap ≤ maxLen) (hz : Zs w' cv d'.ch) : DiskAt w' p g m d' := by
  have hpg := h.pg
  have hpm := h.pm
  refine ⟨hok, ⟨cap, cv, by rw [hn]; exact hb, by rw [hn]; exact h1, h2, hz⟩, ?_, ?_⟩
  · rw [hn, hs]
    exact h.sb.fr hf (by simp; omega)
  · rw [hn, hu]
    exact h.um.fr hf (by simp; omega)
theorem goes_any (p g m : Nat) (d : Dk) (w : World) (h : DiskAt w p g m d) : Calls Try.prog 72 #[ptr p] w fun e w' => e = .returned (.bool d.gone) ∧ DiskAt w' p g m d.tick ∧ Fr [p] w w' := by
  obtain ⟨cap, cv, hb, hc, hm, hz⟩ := h.hd
  have c2 : w.cell? ⟨p, 2, none⟩ = some (.int .i64 d.armed) := by rw [hb.cell]; rfl
  have fz := hb.frozen 2
  have a0 := h.ok.a0
  have a1 := h.ok.a1
  have Htick := h.ok.tick
  by_cases ha : d.armed = 0
  · have E := Lib.hid (show d.tick = d from if_pos ha)
    have E2 := Lib.hid (show false = d.gone by unfold Dk.gone; rw [ha]; rfl)
    have H := Lib.hid h
    rw [ha] at c2
    clear hb hz Htick fz a0 a1 ha h hc hm
    generalize d.gone = G at *
    go_enter Try.func72, Try.ntmps72
    go_wp2
    go_ret
    exact ⟨ret_bool E2.out, by rw [E.out]; exact H.out, Fr.refl _ _⟩
  · have E := Lib.hid (show d.tick = { d with armed := d.armed - 1 } from if_neg ha)
    have hb' := hb.set_ 2 (.int .i64 (d.armed - 1))
    have hf' := (Fr.refl [p] w).setCell (p := ⟨p, 2, none⟩) (.inl (by simp)) (.int .i64 (d.armed - 1))
    have H := Lib.hid (show DiskAt (w.setCell ⟨p, 2, none⟩ (.int .i64 (d.armed - 1))) p g m d.tick by
      refine h.with_ (n := 0) (cs := #[]) (cap := cap) (cv := cv) hf' Htick (by rw [E.out]) (by rw [E.out]) (by rw [E.out]) ?_ hc hm ?_
      · rw [E.out]
        exact hb'
      · rw [E.out]
        exact hz.cells hb _ _)
    have E2 := Lib.hid (show d.gone = (d.armed - 1 == 0) by
      unfold Dk.gone
      by_cases h1 : d.armed = 1
      · rw [h1]; rfl
      · have e1 : (d.armed == 1) = false := by simpa using h1
        have e2 : (d.armed - 1 == 0) = false := by simp; omega
        rw [e1, e2])
    have HF := Lib.hid hf'
    have hw : IntKind.i64.wrap (d.armed - 1) = d.armed - 1 := IntWalk.i64_in _ (by omega)
    clear hb hz Htick h hc hm hb' hf' E
    generalize d.gone = G at *
    generalize d.tick = D at *
    generalize d.armed = M at *
    by_cases h1 : M = 1
    · subst h1
      have e2 : (((1 : Int) - 1) == 0) = true := rfl
      rw [e2] at E2
      go_enter Try.func72, Try.ntmps72
      go_wp2
      go_ret
      exact ⟨ret_bool E2.out.symm, H.out, HF.out⟩
    · have hM : ¬ M - 1 = 0 := by omega
      have e2 : ((M - 1) == 0) = false := by simpa using hM
      rw [e2] at E2
      go_enter Try.func72, Try.ntmps72
      go_wp2
      go_ret
      exact ⟨ret_bool E2.out.symm, H.out, HF.out⟩
theorem Revive_any (p g m : Nat) (d : Dk) (w : World) (h : DiskAt w p g m d) : Calls Try.prog 33 #[ptr p] w fun e w' => e = .returned (.tuple #[]) ∧ DiskAt w' p g m d.revive ∧ Fr [p] w w' := by
  obtain ⟨cap, cv, hb, hc, hm, hz⟩ := h.hd
  have f4 := hb.frozen 4
  have f2 := hb.frozen 2
  have hex4 : (w.cell? ⟨p, 4, none⟩) = some (.bool d.dead) := by rw [hb.cell]; rfl
  have hex2 : (w.cell? ⟨p, 2, none⟩) = some (.int .i64 d.armed) := by rw [hb.cell]; rfl
  have hb' := (hb.set_ 4 (.bool false)).set_ 2 (.int .i64 0)
  have hf' := ((Fr.refl [p] w).setCell (p := ⟨p, 4, none⟩) (.inl (by simp)) (.bool false)).setCell (p := ⟨p, 2, none⟩) (.inl (by simp)) (.int .i64 0)
  have H := Lib.hid (show DiskAt ((w.setCell ⟨p, 4, none⟩ (.bool false)).setCell ⟨p, 2, none⟩ (.int .i64 0)) p g m d.revive from
    h.with_ (n := 0) (cs := #[]) (cap := cap) (cv := cv) hf' h.ok.revive rfl rfl rfl hb' hc hm ((hz.cells hb _ _).cells (hb.set_ 4 _) _ _))
  have HF := Lib.hid hf'
  clear hb hz h hc hm hb' hf'
  generalize d.revive = D at *
  go_enter Try.func33, Try.ntmps33
  go_wp2
  go_end0
  exact ⟨rfl, H.out, HF.out⟩
end Go.Proofs.Ythmnloapjdalpaa
namespace Go.Proofs.Ythmnloapjdalpaa
open Go.RowKit
set_option linter.unusedVariables false
set_option linter.unusedSimpArgs false
theorem after_size (d : Dk) (l : List Int) : (d.after l).size = 128 * d.n := bs_size _ _ _
theorem after_at (d : Dk) (l : List Int) (i : Nat) (hi : i < 128 * d.n) : at8 (d.after l) i = leftB d (chAt l) i := by
  show at8 (bs _ 0 _) i = _
  rw [at8_bs hi, Nat.zero_add]
theorem dies_any (p g m : Nat) (d : Dk) (A : Option Addr) (n cap : Nat) (l : List Int) (w : World) (h : DiskAt w p g m d) (hz : Zw w (.slice A n cap) l) :
    Calls Try.prog 73 #[ptr p, .slice A n cap] w fun e w' => e = .returned (.tuple #[]) ∧ Turned p g m w (d.die l) w' := by
  have hA := Lib.hid (After_any p g m d A n cap l w h hz)
  obtain ⟨cp, cv, hb, hc, hm, hcz⟩ := h.hd
  have hs1 := after_size d l
  have hs2 := after_at d l
  have hn := h.ok.n2
  have Hok := Lib.hid (h.ok.die l)
  have HB := Lib.hid hb
  have HZ := Lib.hid hcz
  have hp := h.ltp
  obtain ⟨X, hX⟩ : ∃ X, d.after l = X := ⟨_, rfl⟩
  rw [hX] at hA hs1 hs2
  have Hs2 := Lib.hid hs2
  have hs1' := Lib.hid hs1
  have hmm := @run_makeMap Try.prog
  clear h hz hb hcz hX hs2 hc hm
  go_enter Try.func73, Try.ntmps73
  go_wp2_with (go_at_call 49; refine hA.out.mono ?_; rintro e w1 ⟨rfl, hf1⟩
               have hcv := run_bytes_of_string (P := Try.prog) w1 9 30 5 X Try.underlying9 Try.underlying30 Try.underlying5
               obtain ⟨C, hC⟩ : ∃ C, grownCap w1 X.size 0 5 = C := ⟨_, rfl⟩
               have hC1 : X.size ≤ C := by rw [← hC]; exact grownCap_ge ..
               have hC2 : C ≤ maxLen := by rw [← hC]; exact grownCap_le_maxLen w1 _ _ _ (by simp only [maxLen]; omega)
               rw [hC] at hcv
               have hwb : ∀ W : World, W.heap.size = w1.heap.size → Wb (W.alloc (.cells (bytesRow X C) 5 ((bytesRow X C).size, (bytesRow X C).size + 1))) w1.heap.size X.size (at8 X) := fun W hW => by rw [← hW]; exact Wb.made W X C (at8 X) (fun i hi => at8_get hi)
               have hb1 := HB.out.fr hf1 (by simp)
               have hp1 := hb1.lt
               have c0 := hb1.cell 0
               have c1 := hb1.cell 1
               have c2 := hb1.cell 2
               have c4 := hb1.cell 4
               simp at c0 c1 c2 c4
               have f0 := hb1.frozen 0
               have f1 := hb1.frozen 1
               have f2 := hb1.frozen 2
               have f4 := hb1.frozen 4
               generalize bytesRow X C = R at *
               have HWB := Lib.hid hwb
               have HB1 := Lib.hid hb1
               have Hf1 := Lib.hid hf1
               have HC := Lib.hid (show X.size ≤ C ∧ C ≤ maxLen from ⟨hC1, hC2⟩)
               clear hwb hb1 hf1 hC hC1 hC2)
  go_end0
  have hb4 := (((HB1.out.set_ 0 (.slice (some ⟨w1.heap.size, 0, none⟩) (128 * d.n) C)).set_ 1 (.map (some (w1.heap.size + 1)))).set_ 2 (.int .i64 0)).set_ 4 (.bool true)
  have hz4 := (((((HZ.out.fr Hf1.out (NoZ.nil _)).cells HB1.out 0 (.slice (some ⟨w1.heap.size, 0, none⟩) (128 * d.n) C)).cells (HB1.out.set_ 0 _) 1 (.map (some (w1.heap.size + 1)))).cells ((HB1.out.set_ 0 _).set_ 1 _) 2 (.int .i64 0)).cells (((HB1.out.set_ 0 _).set_ 1 _).set_ 2 _) 4 (.bool true))
  have hf4 : Fr [p] w1 ((((w1.setCell ⟨p, 0, none⟩ (.slice (some ⟨w1.heap.size, 0, none⟩) (128 * d.n) C)).setCell ⟨p, 1, none⟩ (.map (some (w1.heap.size + 1)))).setCell ⟨p, 2, none⟩ (.int .i64 0)).setCell ⟨p, 4, none⟩ (.bool true)) :=
    ((((Fr.refl [p] w1).setCell (.inl (by simp)) _).setCell (.inl (by simp)) _).setCell (.inl (by simp)) _).setCell (.inl (by simp)) _
  have hsz : ((((w1.setCell ⟨p, 0, none⟩ (.slice (some ⟨w1.heap.size, 0, none⟩) (128 * d.n) C)).setCell ⟨p, 1, none⟩ (.map (some (w1.heap.size + 1)))).setCell ⟨p, 2, none⟩ (.int .i64 0)).setCell ⟨p, 4, none⟩ (.bool true)).heap.size = w1.heap.size := by simp
  generalize (((w1.setCell ⟨p, 0, none⟩ (.slice (some ⟨w1.heap.size, 0, none⟩) (128 * d.n) C)).setCell ⟨p, 1, none⟩ (.map (some (w1.heap.size + 1)))).setCell ⟨p, 2, none⟩ (.int .i64 0)).setCell ⟨p, 4, none⟩ (.bool true) = W4 at *
  have hs1 := Hf1.out.size
  have hwb := HWB.out W4 hsz
  have hu := UMap.made (w := W4.alloc (Obj.cells R 5 (R.size, R.size + 1))) (n := d.n) hn
  rw [World.size_alloc, hsz] at hu
  refine ⟨rfl, w1.heap.size, w1.heap.size + 1, ⟨Hok.out, ⟨C, cv, ((hb4.alloc _).alloc _).drew, ?_, HC.out.2, ?_⟩, ?_, hu.drewN 1⟩, ?_, .inr hs1, .inr (by omega)⟩
  · have := HC.out.1
    show 128 * d.n ≤ C
    omega
  · exact hz4.fr (S := []) ((((Fr.refl [] W4).alloc _).alloc _).drew) (NoZ.nil _)
  · have h2 := (hwb.fr (S := []) (((Fr.refl [] _).alloc (Obj.map #[] 0)).drew) (by simp))
    show Wb _ w1.heap.size (128 * d.n) (leftB d (chAt l))
    rw [hs1'.out] at h2
    exact h2.ext (fun i hi => Hs2.out i hi)
  · exact (((((Hf1.out.mono (S' := [p, g, m]) (fun k hk _ => by cases hk)).step hf4 (fun k hk => .inl (by simp at hk; simp [hk]))).alloc _).alloc _).drew)
theorem Crash_any (p g m : Nat) (d : Dk) (A : Option Addr) (n cap : Nat) (l : List Int) (w : World) (h : DiskAt w p g m d) (hz : Zw w (.slice A n cap) l) :
    Calls Try.prog 32 #[ptr p, .slice A n cap] w fun e w' => e = .returned (.int .i64 d.crashE) ∧ Turned p g m w (d.crashS l) w' := by
  have c4 := h.cells
  obtain ⟨cp, cv, ⟨-, -, -, -, c4, -⟩, -⟩ := c4
  have hD := Lib.hid (dies_any p g m d A n cap l w h hz)
  cases hd : d.dead with
  | true =>
    have H := Lib.hid h
    have E1 := Lib.hid (show (2 : Int) = d.crashE by unfold Dk.crashE; rw [hd]; rfl)
    have E2 := Lib.hid (show d.crashS l = d by unfold Dk.crashS; rw [hd]; rfl)
    rw [hd] at c4
    clear hD h hz hd
    generalize d.crashE = V at *
    go_enter Try.func32, Try.ntmps32
    go_wp2_with fail
    go_ret
    exact ⟨ret_int E1.out, g, m, by rw [E2.out]; exact H.out, Fr.refl _ _, .inl rfl, .inl rfl⟩
  | false =>
    have E1 := Lib.hid (show (0 : Int) = d.crashE by unfold Dk.crashE; rw [hd]; rfl)
    have E2 := Lib.hid (show d.crashS l = d.die l by unfold Dk.crashS; rw [hd]; rfl)
    rw [hd] at c4
    clear h hz hd
    generalize d.crashE = V at *
    go_enter Try.func32, Try.ntmps32
    go_wp2_with (go_at_call 73; refine hD.out.mono ?_; rintro e w1 ⟨rfl, hT⟩)
    go_ret
    exact ⟨ret_int E1.out, by rw [E2.out]; exact hT⟩
end Go.Proofs.Ythmnloapjdalpaa

/- The program's disk: left. -/
import Derived.Test.YthmnloapjdalpaaW5
namespace Go.Proofs.Ythmnloapjdalpaa
open Go.RowKit Go.Maps
set_option linter.unusedVariables false
set_option linter.unusedSimpArgs false
theorem ranges_fr {w w' : World} {m r n cnt : Nat} {D : DataW Unit} {lf : Lit → Bool} {S : List Nat} (h : w.ranges Try.prog 3 (plainElem Try.prog 9) m r n D lf cnt) (hf : Fr S w w') (h1 : m ∉ S) (h2 : r ∉ S) :
    w'.ranges Try.prog 3 (plainElem Try.prog 9) m r n D lf cnt := by
  have e1 := hf.block m h.owns.lt h1
  have e2 := hf.block r h.lt h2
  obtain ⟨es, clock, since, seen, c0, hb, F, hs, hD, hr, rest⟩ := h
  exact ⟨es, clock, since, seen, c0, e1.trans hb, F, hs, hD, e2.trans hr, rest⟩
set_option maxRecDepth 100000 in
set_option maxHeartbeats 1000000 in
theorem left_any (p g m : Nat) (F : FuncId) (caps : Array Value) (d : Dk) (c : Nat → Int) (w : World) (h : DiskAt w p g m d)
    (eF : ∀ args W, (callFunc F args).run Try.prog W = .ok (.enter F args) W)
    (hC : ∀ (k : Nat) (W : World), k < d.n → Fr [] w W → Calls Try.prog F (#[.int .i64 k] ++ caps) W fun e w' => e = .returned (.int .i64 (c k)) ∧ W = w') :
    Calls Try.prog 67 #[ptr p, .func (.func F) #[] caps] w (LeftP w d c) := by
  obtain ⟨cap, cv, ⟨c0, c1, c2, c3, c4, fz⟩, hc, hm, hz⟩ := h.cells
  have hn := h.ok.n2
  have H := Lib.hid h
  have HC := Lib.hid hC
  have hK := Lib.hid (cloneB_any g cap (128 * d.n) d.s w h.sb (by omega))
  obtain ⟨N, hN⟩ : ∃ N, 128 * d.n = N := ⟨_, rfl⟩
  have HN := Lib.hid hN
  rw [hN] at hc hK c0
  clear h c2 c3 c4 fz hz hC hN
  go_enter Try.func67, Try.ntmps67
  go_wp2_with (first
    | (go_at_call 74; refine hK.out.mono ?_; rintro e w1 ⟨G, cp, rfl, hWb, hf1, hG, hcp1, hcp2⟩
       have c1' := hf1.cell_some c1 (by simp)
       have ho1 := (H.out.to hf1).um)
    | (at_range; obtain ⟨hn1, D1, ho1', h11, h12, h13⟩ := ho1; refine wpList_range_own _ rfl _ 108 rfl 3 9 law3 Try.underlying108 _ m _ _ rfl ho1' ?_; intro w0 hrg0 hg0 hs0)
    | go_in)
  go_frame
  have HD := Lib.hid (show _ ∧ _ ∧ _ from ⟨h11, h12, h13⟩)
  have Hf0 : Hid (Fr [] w w0) := Lib.hid (hf1.trans (Fr.of_grown hg0 (fun k hk => by cases hk)))
  have HW0 : Hid (Wb w0 G N (part d c (Maps.has D1))) := Lib.hid ((by
    have h4 := hWb.fr (S := []) (Fr.of_grown hg0 (fun k hk => by cases hk)) (by simp)
    refine h4.ext (fun i hi => ?_)
    unfold part
    rw [HD.out.2.1]
    unfold leftB
    cases hu : d.u (i / 128) with
    | none => rfl
    | some t => rfl))
  have hs1 := hf1.size
  have hGl := hWb.lt
  have Hl := Lib.hid (show w.heap.size ≤ G ∧ G < w1.heap.size ∧ w.heap.size ≤ w1.heap.size from ⟨hG, hGl, hs1⟩)
  clear h11 h12 h13 ho1' hf1 hWb hg0 hs0 hG hGl hs1 c1 c1' hK c0
  generalize w1.heap.size = r at *
  go_loopw [6] (fun _ wr => ∃ (lf : Lit → Bool) (cnt : Nat), wr.ranges Try.prog 3 (plainElem Try.prog 9) m r d.n D1 lf cnt ∧ Wb wr G N (part d c lf) ∧ Fr [] w wr)
    (fun _ wr => wr.rangeLeft m r)
  case atStart => exact ⟨_, _, hrg0, HW0.out, Hf0.out⟩
  case round =>
    obtain ⟨lf, cnt, hrg, hwb, hfr⟩ := hrel
    have Hwb := Lib.hid hwb
    have Hfr := Lib.hid hfr
    clear hwb hfr HW0 Hf0 hrg0
    go_wp2_with (first
      | (at_next; refine wpList_next_ranges_is _ rfl _ rfl 3 9 .i64 law3 Try.underlying3 Try.underlying9 m r d.n _ _ _ rfl hrg ?_ ?_)
      | go_in)
    · intro hc0 hl0
      have hcv := conv_wb (o := 0) (n := N) (cap := cp) Hwb.out (by omega)
      have E : Hid (bs (part d c lf) 0 N = bs (leftB d c) 0 (128 * d.n)) := Lib.hid (by
        rw [HN.out]
        refine bs_congr (fun i hi => ?_)
        unfold part
        rw [hl0]
        rfl)
      generalize bs (part d c lf) 0 N = X at *
      go_wp2
      go_ret
      refine ⟨?_, Hfr.out⟩
      rw [← E.out]
      rfl
    · intro x t w2 cnt1 hwx hwc hlx hat hrg1 hlt hg1 hs1 hen
      obtain ⟨k, hkn, hxk⟩ := HD.out.1 _ (has_true_of_atKey hat)
      obtain rfl : x = (k : Int) := (Lit.int.inj hxk).2
      obtain ⟨s, hus⟩ : ∃ s, d.u k = some s := by
        have h1 := HD.out.2.1 k
        rw [has_true_of_atKey hat] at h1
        exact Option.isSome_iff_exists.1 h1.symm
      obtain rfl : s = t := by
        have h1 := ((HD.out.2.2 k s hus).2 .nil).symm.trans (hat .nil)
        exact list_string (Lit.string.inj (DataW.lit.inj h1))
      have hts := (H.out.ok.un k s hus).2
      have hcl := clamp_le (c k)
      have hci := clamp_int (c k)
      have sl1 := fun wx => slice_l wx G 0 N cp (k * 128) ((k : Int) * 128) (by omega) (by have := HN.out; omega) (by omega)
      rw [Nat.zero_add] at sl1
      have sl2 : ∀ wx, (Instr.slice 9 (.string s) none (some (.int .i64 (clamp (c k) : Int))) none).run Try.prog wx = .ok (.string (s.extract 0 (clamp (c k)))) wx := fun wx => by
        rw [run_slice_string_to_if (P := Try.prog) wx 9 s .i64 _ Try.underlying9, if_pos (by omega)]
        simp
      obtain ⟨mx, hmx⟩ : ∃ mx, (if 0 < c k then c k else 0) = mx := ⟨_, rfl⟩
      have hmn : (if 128 < mx then 128 else mx) = (clamp (c k) : Int) := by
        rw [← hmx, hci]
        split <;> split <;> omega
      have Hsz : Hid ((s.extract 0 (clamp (c k))).size ≤ N - k * 128) := Lib.hid (by
        rw [ByteArray.size_extract]
        have := HN.out
        omega)
      have Hst := Lib.hid (fun j => part_step (c := c) H.out.ok hus hlx j)
      have hcC := Lib.hid (fun W hf => HC.out k W hkn hf)
      obtain ⟨X, hX⟩ : ∃ X, s.extract 0 (clamp (c k)) = X := ⟨_, rfl⟩
      rw [hX] at sl2 Hsz Hst
      obtain ⟨cl, hcle⟩ : ∃ cl, clamp (c k) = cl := ⟨_, rfl⟩
      rw [hcle] at sl2 hmn
      obtain ⟨ck, hck⟩ : ∃ ck, c k = ck := ⟨_, rfl⟩
      rw [hck] at hmx hcC
      have Hkn := Lib.hid hkn
      have hb1 : (k : Int) < 9223372036854775807 / 128 := by omega
      have HR1 := Lib.hid hrg1
      have Hlt := Lib.hid hlt
      have HRG := Lib.hid hrg
      have hfr2 : Fr [] w w2 := Hfr.out.step (Fr.of_grown hg1 (S := [r]) (fun i hi => by cases hi; simp)) (fun i hi => by
        simp at hi
        subst hi
        have := Hl.out
        omega)
      have hwb2 : Wb w2 G N (part d c lf) := Hwb.out.fr (Fr.of_grown hg1 (S := [r]) (fun i hi => by cases hi; simp)) (by have := Hl.out; simp; omega)
      have Hf2 := Lib.hid hfr2
      have Hw2 := Lib.hid hwb2
      clear hrg1 hrg hlt hg1 hs1 hat hxk hus hts hX hcle hck hci hcl hfr2 hwb2
      have m1 : IntKind.i64.wrap ((k : Int) * 128) = (k : Int) * 128 := IntWalk.i64_in _ (by omega)
      go_wp2_with fail
      have Hcc : Hid (∀ j, j < X.size → (w2.drew.cell? ⟨G, k * 128 + j, none⟩).isSome = true) := Lib.hid (fun j hj => by
        have h1 := Hsz.out
        rw [show w2.drew.cell? ⟨G, k * 128 + j, none⟩ = w2.cell? ⟨G, k * 128 + j, none⟩ from rfl, Hw2.out.cell (by omega)]
        rfl)
      have Hcf : Hid (∀ j, j < X.size → w2.drew.frozen? ⟨G, k * 128 + j, none⟩ = false) := Lib.hid (fun j hj => by
        have h1 := Hsz.out
        exact Hw2.out.frozen (by omega))
      go_region_held3 (fun _ => True) (trivial) (first
        | (refine (hcC.out _ (Hf2.out.drew)).mono ?_; rintro e w3 ⟨rfl, rfl⟩)
        | (refine step_copy_string rfl (.tmp 26) (.tmp 33) 30 9 rfl 5 Try.underlying30 sizeOf5 G (k * 128) (N - k * 128) (cp - k * 128) rfl X rfl Hsz.out Hcc.out Hcf.out ?_))
      have hfG : Fr [G] w2 (w2.drew.setCells G (k * 128) (X.data.toList.map fun x => Value.int .u8 (x.toNat : Int))) := Fr.setCells (.inl (by simp)) _ _ _ (Fr.refl _ _).drew
      have hGm : m ∉ [G] := by have := H.out.ltm; have := Hl.out; simp; omega
      have hGr : r ∉ [G] := by have := Hl.out; simp; omega
      have hrN := ranges_fr HR1.out hfG hGm hGr
      have hwN : Wb (w2.drew.setCells G (k * 128) (X.data.toList.map fun x => Value.int .u8 (x.toNat : Int))) G N (part d c (fun z => lf z && !z.sameKey (.int .i64 (k : Int)))) := (Wb.setCells _ _ _ _ (Hw2.out.fr (S := []) ((Fr.refl [] w2).drew) (by simp))).ext (fun i _ => Hst.out i)
      have hfN : Fr [] w (w2.drew.setCells G (k * 128) (X.data.toList.map fun x => Value.int .u8 (x.toNat : Int))) := Fr.setCells (.inr (by have := Hl.out; omega)) _ _ _ Hf2.out.drew
      generalize w2.drew.setCells G (k * 128) (X.data.toList.map fun x => Value.int .u8 (x.toNat : Int)) = W at *
      go_wp2_with fail
      go_roundw
      case rel => exact ⟨_, _, hrN, hwN, hfN⟩
      case measure => rw [hrN.left_eq, HRG.out.left_eq]; exact Hlt.out
end Go.Proofs.Ythmnloapjdalpaa

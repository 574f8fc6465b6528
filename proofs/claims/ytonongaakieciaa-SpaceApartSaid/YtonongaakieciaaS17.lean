/- SpaceCode, walked. -/
import Derived.Test.YtonongaakieciaaS16
import Derived.Deep.LoopGhost
namespace Go.Proofs.Ytonongaakieciaa
open Go.RowKit
set_option linter.unusedVariables false
set_option linter.unusedSimpArgs false
set_option maxRecDepth 100000
section
variable (s : ByteArray) (a b : Nat) (ia ib : Int) (ha : ia = a) (hb : ib = b) (wx : World)
include ha
theorem sl_to (h : a ≤ s.size) : (Instr.slice 9 (.string s) none (some (.int .i64 ia)) none).run Try.prog wx = .ok (.string (s.extract 0 a)) wx := by
  subst ha
  rw [run_slice_string_to_if (P := Try.prog) wx 9 s .i64 _ Try.underlying9, if_pos (by omega)]
  simp
end
theorem wf_i64 {x : Int} (h : (Lit.int .i64 x).wf = true) : -9223372036854775808 ≤ x ∧ x ≤ 9223372036854775807 := by
  simp [Lit.wf, IntKind.min, IntKind.max, IntKind.signed, IntKind.bits] at h
  omega
/-- A call of a script. -/
structure OpS where
  on : Int
  kind : Int
  part : Int
  a : Int
  b : Int
  s : ByteArray
  fa : -9223372036854775808 ≤ a ∧ a ≤ 9223372036854775807
  fb : -9223372036854775808 ≤ b ∧ b ≤ 9223372036854775807
  fs : s.size ≤ maxLen
def OpS.none : OpS := ⟨0, 0, 0, 0, 0, ⟨#[]⟩, by decide, by decide, Nat.zero_le _⟩
def OpS.at (w : World) (b o : Nat) (x : OpS) : Prop :=
  w.cell? ⟨b, o, .none⟩ = some (.int .i64 x.on) ∧ w.cell? ⟨b, o + 1, .none⟩ = some (.int .i64 x.kind) ∧ w.cell? ⟨b, o + 2, .none⟩ = some (.int .i64 x.part) ∧ w.cell? ⟨b, o + 3, .none⟩ = some (.int .i64 x.a) ∧ w.cell? ⟨b, o + 4, .none⟩ = some (.int .i64 x.b) ∧ w.cell? ⟨b, o + 5, .none⟩ = some (.string x.s)
theorem OpS.at.fr {w w' : World} {b o : Nat} {x : OpS} (h : OpS.at w b o x) (hf : Fr [] w w') : OpS.at w' b o x :=
  ⟨hf.cell_some h.1 (by simp), hf.cell_some h.2.1 (by simp), hf.cell_some h.2.2.1 (by simp), hf.cell_some h.2.2.2.1 (by simp), hf.cell_some h.2.2.2.2.1 (by simp), hf.cell_some h.2.2.2.2.2 (by simp)⟩
/-- A slice of calls. -/
def OpsS (w : World) (A : Option Addr) (n : Nat) (ops : Nat → OpS) : Prop :=
  n ≤ maxLen ∧ ∀ i, i < n → ∃ b off, A = some ⟨b, off, .none⟩ ∧ OpS.at w b (off + i * 6) (ops i)
theorem OpsS.fr {w w' : World} {A : Option Addr} {n : Nat} {ops : Nat → OpS} (h : OpsS w A n ops) (hf : Fr [] w w') : OpsS w' A n ops :=
  ⟨h.1, fun i hi => by obtain ⟨b, off, e, hc⟩ := h.2 i hi; exact ⟨b, off, e, hc.fr hf⟩⟩
theorem rowN_len (t : List Pg) (j : Nat) : (rowN t j).length = rN t j := by simp [rowN]
/-- How many pages the f-th partition has. -/
def Pn (K f : Nat) (x : Sp) : Prop := ∃ t, x.tb[f]? = some t ∧ t.length = K
theorem Pn.new {t : List Pg} {f : Nat} (h : f < t.length) : Pn (rN t f) f (spNew t) := ⟨rowN t f, by simp [spNew, h], rowN_len t f⟩
theorem Pn.has {K f : Nat} {x : Sp} (h : Pn K f x) : hasP x (f : Int) = true ∧ (tbOf x (f : Int)).length = K := by
  obtain ⟨t, ht, hl⟩ := h
  obtain ⟨h1, h2⟩ := tbOf_some ht
  exact ⟨h1, by rw [h2]; exact hl⟩
theorem Pn.out {K f : Nat} {x : Sp} (h : Pn K f x) (i a : Int) (s : ByteArray) : Pn K f (outS x i a s) := by
  unfold outS
  split
  · exact h
  · exact h
theorem Pn.ld {K f : Nat} {x : Sp} (h : Pn K f x) (i : Int) (s : ByteArray) : Pn K f (ldS x i s) := by
  unfold ldS
  split
  · exact h
  · next he =>
    obtain ⟨t, ht, hl⟩ := h
    have hfl := (List.getElem?_eq_some_iff.1 ht).1
    have he' : ldE x i s = 0 := by simpa using he
    have hp : hasP x i = true := by
      unfold ldE at he'
      cases hq : hasP x i with
      | true => rfl
      | false => rw [if_pos hq] at he'; omega
    obtain ⟨k, t', rfl, hk⟩ := hasP_some hp
    obtain ⟨-, hto⟩ := tbOf_some hk
    by_cases e : k = f
    · subst e
      rw [hk] at ht
      injection ht with ht
      subst ht
      exact ⟨_, by simp only [Int.toNat_natCast]; rw [List.getElem?_set, if_pos rfl, if_pos hfl], by rw [ldT_len, hto]; exact hl⟩
    · exact ⟨t, by simp only [Int.toNat_natCast]; rw [List.getElem?_set, if_neg e]; exact ht, hl⟩
/-- What is asked of fixed, of a table that may not be. -/
theorem code_bad (b m cap : Nat) (A : Option Addr) (t : List Pg) (w : World) (ht : Tb w b (.slice A m cap) t) (pr : ByteArray) (wp : Int) (B : Option Addr) (ns cs : Nat) (hE : ptsE t ≠ 0) :
    Calls Try.prog 12 #[.slice A m cap, .string pr, .agg #[.int .i64 wp, .slice B ns cs]] w fun e w' => e = .returned (.bool true) ∧ Fr [] w w' := by
  have H0 : Hid (Fr [] w (w.alloc (.cells #[.int .i64 wp, .slice B ns cs] 96))) := Lib.hid ((Fr.refl [] w).alloc _)
  have HT := Lib.hid (fun W (hf : Fr [] w W) => ht.fr hf (by simp))
  have H13 := Lib.hid (fun W (hf : Fr [] w W) => SNew_bad b m cap A t W (HT.out W hf) hE)
  have H14 := Lib.hid (fun W (hf : Fr [] w W) => (show Calls Try.prog 14 #[.slice A m cap] W fun e w' => e = .returned (.bool false) ∧ W = w' by
    have := Check_pts b m cap A t W (HT.out W hf)
    rwa [decide_eq_false hE] at this))
  have H15 := Lib.hid fixed_any
  generalize hW0 : (w.alloc (.cells #[.int .i64 wp, .slice B ns cs] 96)) = W0 at *
  clear ht HT hE
  go_enter Try.func12, Try.ntmps12
  go_wp2_with (first
    | (go_at_call 13; refine (H13.out _ H0.out).mono ?_; clear H13; rintro e w1 ⟨rfl, hf⟩; have H1 := Lib.hid (H0.out.trans hf); clear hf)
    | (go_at_call 14; refine (H14.out _ H1.out).mono ?_; clear H14; rintro e w2 ⟨rfl, rfl⟩)
    | (go_at_call 15; refine (H15.out _).mono ?_; clear H15; rintro e w3 ⟨rfl, hf⟩; have H2 := Lib.hid (H1.out.trans hf); clear hf)
    | fail)
  go_ret
  exact ⟨rfl, H2.out⟩
set_option maxHeartbeats 8000000 in
theorem code_ok (b m cap : Nat) (A : Option Addr) (t : List Pg) (w : World) (ht : Tb w b (.slice A m cap) t) (pr : ByteArray) (hpr : pr.size ≤ maxLen) (wp : Int) (hwp : -9223372036854775808 ≤ wp ∧ wp ≤ 9223372036854775807) (B : Option Addr) (ns cs : Nat) (ops : Nat → OpS) (ho : OpsS w B ns ops) (hE : ptsE t = 0) :
    Calls Try.prog 12 #[.slice A m cap, .string pr, .agg #[.int .i64 wp, .slice B ns cs]] w fun e w' => e = .returned (.bool true) ∧ Fr [] w w' := by
  have H0 : Hid (Fr [] w (w.alloc (.cells #[.int .i64 wp, .slice B ns cs] 96))) := Lib.hid ((Fr.refl [] w).alloc _)
  have HB := Lib.hid (Blk.new w 96 #[.int .i64 wp, .slice B ns cs])
  have hl := ht.n_eq
  have ⟨h1, h8⟩ : 1 ≤ m ∧ m ≤ 8 := by
    unfold ptsE at hE
    split at hE
    · next h => omega
    · omega
  obtain ⟨f, ef, hf⟩ := place_nat wp m (by omega)
  obtain ⟨pg, hpg⟩ : ∃ q, t[f]? = some q := ⟨_, List.getElem?_eq_getElem (by omega)⟩
  have hrn : (rN t f : Int) = pg.r ∧ rN t f ≤ 16 := by
    unfold ptsE at hE
    split at hE
    · next h =>
      have h2 := List.all_eq_true.1 h.2 pg (List.mem_of_getElem? hpg)
      unfold ptOk at h2
      simp at h2
      unfold rN
      rw [hpg]
      simp
      omega
    · omega
  obtain ⟨off, hA, hbl, -, c1⟩ := ht.at_ hpg
  subst hA
  have HC := Lib.hid (fun W (hf : Fr [] w W) => (hf.cell_some c1 (by simp)))
  have H13 := Lib.hid (Sd.new b m cap _ t _ _ (ht.fr H0.out (by simp)) hE (Fr.refl [] _))
  have H16 := Lib.hid (fun W => (show Calls Try.prog 16 #[.int .i64 wp, .int .i64 (m : Int)] W fun e w' => e = .returned (.int .i64 (f : Int)) ∧ W = w' by
    have := place_any wp m (by omega) (by omega) hwp.1 hwp.2 W
    rwa [ef] at this))
  have H60 := Lib.hid (fun (x : Int) (hx : -9223372036854775808 ≤ x ∧ x ≤ 9223372036854775807) W => place_any x 60 (by omega) (by omega) hx.1 hx.2 W)
  have Ho := Lib.hid ho
  have hnn := ho.1
  simp only [maxLen] at hnn
  have hps := hpr
  simp only [maxLen] at hps
  generalize hW0 : (w.alloc (.cells #[.int .i64 wp, .slice B ns cs] 96)) = W0 at *
  have hPn0 : Pn (rN t f) f (spNew t) := Pn.new (by omega)
  obtain ⟨X0, eX0⟩ : ∃ X, spNew t = X := ⟨_, rfl⟩
  rw [eX0] at H13 hPn0
  have HP0 := Lib.hid hPn0
  obtain ⟨K, hK⟩ : ∃ K, rN t f = K := ⟨_, rfl⟩
  rw [hK] at hrn HP0
  have HKr := Lib.hid hrn
  rw [← hrn.1] at HC
  have hK16 := hrn.2
  have hwz : IntKind.i64.wrap (256 * (K : Int)) = 256 * (K : Int) := IntWalk.i64_in _ (by omega)
  have H15 := Lib.hid fixed_any
  have HNs := Lib.hid (fun (n : Nat) (h : n ≤ 524288) W => SNoughts_any n h W)
  have hf0 : (0 : Int) ≤ (f : Int) := by omega
  have hfm : (f : Int) < (m : Int) := by omega
  clear ht ho hE ef hl hpg hrn hPn0 c1 hpr eX0 hK
  go_enter Try.func12, Try.ntmps12
  go_wp2_with (first
    | (go_at_call 13; refine H13.out.mono ?_; clear H13; rintro e w1 ⟨s, p, F, g, rfl, hd, -⟩; have k0 : w1.cell? ⟨w.heap.size, 0, none⟩ = some (.int .i64 wp) := (HB.out.fr hd.fr (by simp)).cell 0; have kC := HC.out w1 (H0.out.trans hd.fr); have HD := Lib.hid hd; clear hd)
    | (go_at_call 16; refine (H16.out _).mono ?_; clear H16; rintro e w2 ⟨rfl, rfl⟩)
    | fail)
  clear k0 kC HC
  go_loopg [11] ns (fun gg i wr => ∃ (j : Nat) (x : Sp), j + gg = ns ∧ i = .int .i64 (j : Int) ∧ Sd W0 wr s p F g x ∧ Pn K f x)
  case atStart => exact ⟨0, X0, by omega, rfl, HD.out, HP0.out⟩
  case round =>
    obtain ⟨j, x, hj, rfl, hd, hp⟩ := hrel
    have Hj := Lib.hid hj
    have Hd := Lib.hid hd
    have Hp := Lib.hid hp
    have k1 : wr.cell? ⟨w.heap.size, 1, none⟩ = some (.slice B ns cs) := (HB.out.fr hd.fr (by simp)).cell 1
    by_cases hlt : j < ns
    · have hlt' : (j : Int) < (ns : Int) := by omega
      have hj0 : (0 : Int) ≤ (j : Int) := by omega
      have hwk : IntKind.i64.wrap ((j : Int) + 1) = (j : Int) + 1 := IntWalk.i64_in _ (by omega)
      obtain ⟨bo, off2, rfl, hat⟩ := (Ho.out.fr (H0.out.trans hd.fr)).2 j hlt
      have Hat := Lib.hid hat
      have k5 := hat.2.2.2.2.2
      have HL := Lib.hid (hd.load (f : Int) (ops j).s)
      have HO := Lib.hid (fun W (h : Sd W0 W s p F g (ldS x (f : Int) (ops j).s)) => h.out (f : Int) (ops j).a (ops j).s (ops j).fa.2)
      have HN := Lib.hid ((hp.ld (f : Int) (ops j).s).out (f : Int) (ops j).a (ops j).s)
      have HK := Lib.hid (fun x W (h : Sd W0 W s p F g x) => (show W.cell? ⟨w.heap.size, 1, none⟩ = some (.slice (some ⟨bo, off2, none⟩) ns cs) ∧ W.cell? ⟨bo, off2 + j * 6 + 3, none⟩ = some (.int .i64 (ops j).a) ∧ W.cell? ⟨bo, off2 + j * 6 + 5, none⟩ = some (.string (ops j).s) from ⟨(HB.out.fr h.fr (by simp)).cell 1, by
        obtain ⟨b3, o3, e3, hc3⟩ := (Ho.out.fr (H0.out.trans h.fr)).2 j hlt
        injection e3 with e3
        injection e3 with e3 e4
        subst e3 e4
        exact ⟨hc3.2.2.2.1, hc3.2.2.2.2.2⟩⟩))
      generalize (ops j).s = sj at *
      generalize (ops j).a = aj at *
      generalize ldE x (f : Int) sj = E0 at *
      generalize hx1 : ldS x (f : Int) sj = X1 at *
      generalize outE X1 (f : Int) aj sj = E1 at *
      generalize hx2 : outS X1 (f : Int) aj sj = X2 at *
      clear hj hd hp hat hx1 hx2
      go_wp2_with (first
        | (go_at_call 17; refine HL.out.mono ?_; rintro e w2 ⟨rfl, hd2⟩; obtain ⟨c1, c3, c5⟩ := HK.out _ _ hd2; have HD2 := Lib.hid hd2; clear hd2)
        | fail)
      go_region_held3 (fun W => W.cell? ⟨w.heap.size, 1, none⟩ = some (.slice (some ⟨bo, off2, none⟩) ns cs) ∧ W.cell? ⟨bo, off2 + j * 6 + 3, none⟩ = some (.int .i64 aj) ∧ W.cell? ⟨bo, off2 + j * 6 + 5, none⟩ = some (.string sj)) (first | exact ⟨c1, c3, c5⟩ | exact kk) (first
        | (go_at_call 19; refine (HO.out _ (HD2.out.to (Fr.refl [] _).drew)).mono ?_; rintro e w3 ⟨rfl, hd3⟩; have kk := HK.out _ _ hd3))
      go_wp2_with fail
      go_roundg (ns - (j + 1))
      case measure => have := Hj.out; omega
      case rel => exact ⟨j + 1, X2, by have := Hj.out; omega, by go_num, hd3, HN.out⟩
    · have hlt' : ¬ (j : Int) < (ns : Int) := by omega
      have hLd := Lib.hid (hd.load (f : Int) pr)
      clear hj hlt
      by_cases hfit : pr.size ≤ K * 256
      · obtain ⟨t1, ht1, hl1⟩ := hp
        obtain ⟨e0, t', hl', hk', hall⟩ := ld_keep (x := x) hd.ok ht1 (pr := pr) (by rw [hl1]; exact hfit)
        rw [hl1] at hl' hall
        rw [e0] at hLd
        have HKp := Lib.hid hk'
        have Hl' := Lib.hid hl'
        obtain ⟨N, hN⟩ : ∃ N, 256 * K - pr.size = N := ⟨_, rfl⟩
        rw [hN] at hall
        have hsub : IntKind.i64.wrap (256 * (K : Int) - (pr.size : Int)) = (N : Int) := by rw [IntWalk.i64_in _ (by omega)]; omega
        have hN5 : N ≤ 524288 := by omega
        have hgt : ¬ (256 * (K : Int)) < (pr.size : Int) := by omega
        have hzz : (zeros N).size = N := by simp [zeros, ByteArray.size]
        have hcat : ¬ (9223372036854775807 : Int) < (pr.size : Int) + ((zeros N).size : Int) := by rw [hzz]; omega
        have hcat2 : ¬ 9223372036854775807 < pr.size + (zeros N).size := by rw [hzz]; omega
        have HAl := Lib.hid (fun W (h : Sd W0 W s p F g (ldS x (f : Int) pr)) => h.all hk'.has.1)
        rw [hall] at HAl
        have HMa := Lib.hid (fun W (h : Sd W0 W s p F g (ldS x (f : Int) pr)) => h.machine)
        have HNz := Lib.hid (fun W => HNs.out N hN5 W)
        generalize zeros N = Z at *
        generalize ldS x (f : Int) pr = X1 at *
        generalize x.tb.set f t' = T at *
        clear hd e0 hfit hk' hl' hall hN ht1 hl1
        go_wp2_with (first
          | (go_at_call 17; refine hLd.out.mono ?_; rintro e w2 ⟨rfl, hd2⟩; have HD2 := Lib.hid hd2; clear hd2)
          | (go_at_call 18; refine (HAl.out _ HD2.out).mono ?_; rintro e w3 ⟨rfl, hd2⟩; have HD3 := Lib.hid hd2; clear hd2)
          | (go_at_call 53; refine (HNz.out _).mono ?_; rintro e w4 ⟨rfl, hf⟩; have HD4 := Lib.hid (HD3.out.to hf); clear hf)
          | (go_at_call 30; refine (HMa.out _ HD4.out).mono ?_; rintro e w5 ⟨v, rfl, hm⟩; have HM5 := Lib.hid hm; clear hm)
          | fail)
        obtain ⟨wr1, rfl⟩ : ∃ W, W = wr := ⟨_, rfl⟩
        go_loopg [13] ns (fun gg i wr => ∃ (j : Nat) (x : Sp) (y : Vm), j + gg = ns ∧ i = .int .i64 (j : Int) ∧ Sm W0 wr s p F g v x y ∧ Keep T f t' pr x)
        case atStart => exact ⟨0, X1, vm0, by omega, rfl, HM5.out, HKp.out⟩
        case round =>
          obtain ⟨j2, x2, y2, hj2, rfl, hm2, hk2⟩ := hrel
          have Hj2 := Lib.hid hj2
          have Hm2 := Lib.hid hm2
          have Hk2 := Lib.hid hk2
          have k1 : wr.cell? ⟨w.heap.size, 1, none⟩ = some (.slice B ns cs) := (HB.out.fr hm2.d.fr (by simp)).cell 1
          by_cases hlt2 : j2 < ns
          · have hlt2' : (j2 : Int) < (ns : Int) := by omega
            have hj20 : (0 : Int) ≤ (j2 : Int) := by omega
            have hwk2 : IntKind.i64.wrap ((j2 : Int) + 1) = (j2 : Int) + 1 := IntWalk.i64_in _ (by omega)
            obtain ⟨bo, off2, rfl, hat⟩ := (Ho.out.fr (H0.out.trans hm2.d.fr)).2 j2 hlt2
            have HK := Lib.hid (fun x y W (h : Sm W0 W s p F g v x y) => (show W.cell? ⟨w.heap.size, 1, none⟩ = some (.slice (some ⟨bo, off2, none⟩) ns cs) ∧ W.cell? ⟨bo, off2 + j2 * 6 + 3, none⟩ = some (.int .i64 (ops j2).a) ∧ W.cell? ⟨bo, off2 + j2 * 6 + 5, none⟩ = some (.string (ops j2).s) ∧ W.cell? ⟨bo, off2 + j2 * 6 + 4, none⟩ = some (.int .i64 (ops j2).b) from ⟨(HB.out.fr h.d.fr (by simp)).cell 1, by
              obtain ⟨b3, o3, e3, hc3⟩ := (Ho.out.fr (H0.out.trans h.d.fr)).2 j2 hlt2
              injection e3 with e3
              injection e3 with e3 e4
              subst e3 e4
              exact ⟨hc3.2.2.2.1, hc3.2.2.2.2.2, hc3.2.2.2.2.1⟩⟩))
            have HO := Lib.hid (fun W (h : Sm W0 W s p F g v x2 y2) => h.out (f : Int) (ops j2).a (ops j2).s (ops j2).fa.2)
            have HKe := Lib.hid (hk2.out hm2.d.ok (ops j2).a (ops j2).s)
            obtain ⟨q, eq, hq⟩ := place_nat (ops j2).b 60 (by omega)
            have HPl := Lib.hid (fun W => (show Calls Try.prog 16 #[.int .i64 (ops j2).b, .int .i64 60] W fun e w' => e = .returned (.int .i64 (q : Int)) ∧ W = w' by
              have := H60.out (ops j2).b (ops j2).fb W
              rw [← eq]
              exact this))
            obtain ⟨c1, c3, c5, c4⟩ := HK.out _ _ _ hm2
            generalize (ops j2).s = sj at *
            generalize (ops j2).a = aj at *
            generalize (ops j2).b = bj at *
            generalize outE x2 (f : Int) aj sj = E1 at *
            generalize hx2 : outS x2 (f : Int) aj sj = X2 at *
            clear hj2 hm2 hk2 hat hx2 eq
            go_wp2_with fail
            go_region_held3 (fun W => W.cell? ⟨w.heap.size, 1, none⟩ = some (.slice (some ⟨bo, off2, none⟩) ns cs) ∧ W.cell? ⟨bo, off2 + j2 * 6 + 3, none⟩ = some (.int .i64 aj) ∧ W.cell? ⟨bo, off2 + j2 * 6 + 5, none⟩ = some (.string sj) ∧ W.cell? ⟨bo, off2 + j2 * 6 + 4, none⟩ = some (.int .i64 bj)) (first | exact ⟨c1, c3, c5, c4⟩ | exact kk) (first
              | (go_at_call 19; refine (HO.out _ (Hm2.out.to (Fr.refl [] _).drew)).mono ?_; rintro e w3 ⟨rfl, hd3⟩; have kk := HK.out _ _ _ hd3))
            have HM3 := Lib.hid hd3
            clear hd3 kk c1 c3 c5 c4 k1
            go_wp2_with fail
            obtain ⟨wr2, rfl⟩ : ∃ W, W = wr := ⟨_, rfl⟩
            go_loopg [14] 60 (fun gg i wr => ∃ (k : Nat) (x : Sp) (y : Vm), k + gg = 60 ∧ i = .int .i64 (k : Int) ∧ Sm W0 wr s p F g v x y ∧ Keep T f t' pr x)
            case atStart => exact ⟨0, X2, y2, by omega, rfl, HM3.out, HKe.out⟩
            case round =>
              obtain ⟨k, x3, y3, hk3, rfl, hm3, hkp3⟩ := hrel
              have Hk3 := Lib.hid hk3
              have Hm3 := Lib.hid hm3
              have Hkp3 := Lib.hid hkp3
              obtain ⟨c1, -, -, c4⟩ := HK.out _ _ _ hm3
              by_cases hkq : k < q
              · have hkq' : (k : Int) < (q : Int) := by omega
                have hwk3 : IntKind.i64.wrap ((k : Int) + 1) = (k : Int) + 1 := IntWalk.i64_in _ (by omega)
                have hho := Lib.hid hkp3.has
                have HMe := Lib.hid hm3.mem
                have HTa := Lib.hid (hm3.table hkp3.has.1)
                rw [hkp3.has.2] at HTa
                have HSt := Lib.hid (fun b' W (h : Sm W0 W s p F g v x3 y3) (hB : PB W b' t') => (show Calls Try.prog 34 #[ptr v, ptr p, .slice (some ⟨b', 0, none⟩) t'.length t'.length] W fun e w' => ∃ (k n : Int) (x' : Sp) (y' : Vm), e = .returned (.agg #[.int .i64 k, .int .i64 n]) ∧ Sm W0 w' s p F g v x' y' ∧ Keep T f t' pr x' by
                  have h1 := h.step (i := (f : Int)) hho.out.1 (b := b') (by rw [hho.out.2]; exact hB)
                  rw [hho.out.2] at h1
                  exact h1.mono fun e w' ⟨k, n, st', y', he, hw, hs⟩ => ⟨k, n, _, y', he, hs, Hkp3.out.wr h.d.ok hw⟩))
                clear hk3 hm3 hkp3
                go_wp2_with (first
                  | (go_at_call 16; refine (HPl.out _).mono ?_; rintro e w6 ⟨rfl, rfl⟩)
                  | (go_at_call 52; refine HMe.out.mono ?_; rintro e w6 ⟨rfl, rfl⟩)
                  | (go_at_call 51; refine HTa.out.mono ?_; rintro e w6 ⟨b', rfl, hB, hm6⟩; have HB6 := Lib.hid (And.intro hB hm6); clear hB hm6)
                  | (go_at_call 34; refine (HSt.out _ _ HB6.out.2 HB6.out.1).mono ?_; rintro e w7 ⟨ek, en, x4, y4, rfl, hm7, hk7⟩; have HM7 := Lib.hid (And.intro hm7 hk7); clear hm7 hk7)
                  | (go_at_call 33; refine ((HM7.out.1.to (((Fr.refl [] _).alloc _).alloc _)).answer _ _ _ _ (Blk.new' (by simp))).mono ?_; rintro e w8 ⟨ec, y5, rfl, hm8⟩; have HM8 := Lib.hid hm8; clear hm8)
                  | fail)
                · go_roundg (60 - (k + 1))
                  case measure => have := Hk3.out; omega
                  case rel => exact ⟨k + 1, x4, y5, by have := Hk3.out; omega, by go_num, HM8.out, HM7.out.2⟩
                · go_roundg (60 - (k + 1))
                  case measure => have := Hk3.out; omega
                  case rel => exact ⟨k + 1, x4, y4, by have := Hk3.out; omega, by go_num, HM7.out.1.to ((Fr.refl [] _).alloc _), HM7.out.2⟩
              · have hkq' : ¬ (k : Int) < (q : Int) := by omega
                clear hk3 hm3 hkp3
                go_wp2_with (first
                  | (go_at_call 16; refine (HPl.out _).mono ?_; rintro e w6 ⟨rfl, rfl⟩)
                  | fail)
                go_roundg (ns - (j2 + 1))
                case measure => have := Hj2.out; omega
                case rel => exact ⟨j2 + 1, x3, y3, by have := Hj2.out; omega, by go_num, Hm3.out, Hkp3.out⟩
          · have hlt2' : ¬ (j2 : Int) < (ns : Int) := by omega
            have HAl2 := Lib.hid (hm2.all hk2.has.1)
            obtain ⟨z1, z2⟩ := hk2.fine
            rw [Hl'.out] at z1
            generalize allS x2 (f : Int) = V2 at *
            have hz1 : (V2.size : Int) = 256 * (K : Int) := by omega
            have hsl := fun wx => sl_to V2 pr.size (pr.size : Int) rfl wx (by omega)
            rw [z2] at hsl
            clear hj2 hm2 hk2 hlt2 z1 z2
            go_wp2_with (first
              | (go_at_call 18; refine HAl2.out.mono ?_; rintro e w6 ⟨rfl, hm6⟩; have HF6 := Lib.hid (H0.out.trans hm6.d.fr); clear hm6)
              | (go_at_call 15; refine (H15.out _).mono ?_; clear H15; rintro e w7 ⟨rfl, hf⟩; have H2 := Lib.hid (HF6.out.trans hf); clear hf)
              | fail)
            go_ret
            exact ⟨rfl, H2.out⟩
      · have e0 : ldE x (f : Int) pr = 122 := by
          obtain ⟨q1, q2⟩ := hp.has
          unfold ldE
          rw [if_neg (by rw [q1]; simp), q2, if_pos (by omega)]
        rw [e0] at hLd
        have hgt : (256 * (K : Int)) < (pr.size : Int) := by omega
        clear hd hp e0 hfit
        go_wp2_with (first
          | (go_at_call 17; refine hLd.out.mono ?_; rintro e w2 ⟨rfl, hd2⟩; have HF2 := Lib.hid (H0.out.trans hd2.fr); clear hd2)
          | (go_at_call 15; refine (H15.out _).mono ?_; clear H15; rintro e w3 ⟨rfl, hf⟩; have H2 := Lib.hid (HF2.out.trans hf); clear hf)
          | fail)
        go_ret
        exact ⟨rfl, H2.out⟩
theorem code_walk (b m cap : Nat) (A : Option Addr) (t : List Pg) (w : World) (ht : Tb w b (.slice A m cap) t) (pr : ByteArray) (hpr : pr.size ≤ maxLen) (wp : Int) (hwp : -9223372036854775808 ≤ wp ∧ wp ≤ 9223372036854775807) (B : Option Addr) (ns cs : Nat) (ops : Nat → OpS) (ho : OpsS w B ns ops) :
    Calls Try.prog 12 #[.slice A m cap, .string pr, .agg #[.int .i64 wp, .slice B ns cs]] w fun e w' => e = .returned (.bool true) ∧ Fr [] w w' := by
  by_cases hE : ptsE t = 0
  · exact code_ok b m cap A t w ht pr hpr wp hwp B ns cs ops ho hE
  · exact code_bad b m cap A t w ht pr wp B ns cs hE
end Go.Proofs.Ytonongaakieciaa

/- DiskSelf: the walk. -/
import Derived.Test.YthmnloapjdalpaaL9
namespace Go.Proofs.Ythmnloapjdalpaa
open Go.RowKit
set_option linter.unusedVariables false
set_option linter.unusedSimpArgs false
/-- The choices but one, out of B; that one out of A. -/
def otherC (la lb : List Int) (one : Nat) (i : Nat) : Int := if i = one then chAt la i else chAt lb i
theorem after_one (d : Dk) (la : List Int) (c : Nat → Int) (one : Nat) (h : one < d.n) (hc : c one = chAt la one) (l : List Int) (hl : ∀ i, i < d.n → chAt l i = c i) :
    (d.after l).extract (128 * one) (128 * one + 128) = (d.after la).extract (128 * one) (128 * one + 128) := by
  unfold Dk.after
  rw [bs_extract _ _ _ _ _ (by omega) (by omega), bs_extract _ _ _ _ _ (by omega) (by omega)]
  refine bs_congr fun i hi => ?_
  have e : (0 + 128 * one + i) / 128 = one := by omega
  unfold leftB
  rw [e, hl one h, hc]
/-- What DiskSelf's calls tell. -/
structure SeC (w : World) (p : Nat) (D : Dk) (N one : Nat) (x : Int) (LA : ByteArray) (CA : Option Addr) (na ca : Nat) : Prop where
  count : ∀ W, Dd w W p D → Calls Try.prog 29 #[ptr p] W fun e w' => e = .returned (.int .i64 N) ∧ W = w'
  p1 : ∀ W, Calls Try.prog 47 #[.int .i64 x, .int .i64 (N : Int)] W fun e w' => e = .returned (.int .i64 one) ∧ W = w'
  after : ∀ W, Dd w W p D → Calls Try.prog 49 #[ptr p, .slice CA na ca] W fun e w' => e = .returned (.string LA) ∧ Dd w w' p D
  after2 : ∀ W A n c l, Dd w W p D → Zw W (.slice A n c) l → Calls Try.prog 49 #[ptr p, .slice A n c] W fun e w' => e = .returned (.string (D.after l)) ∧ Dd w w' p D
  fixed : ∀ W, Dd w W p D → Calls Try.prog 46 #[] W fun e w' => e = .returned (.bool true) ∧ Dd w w' p D
theorem seC {w0 w : World} {p : Nat} {D : Dk} (hd : Dd w0 w p D) (x : Int) (hx : -9223372036854775808 ≤ x ∧ x ≤ 9223372036854775807) {CA : Option Addr} {na ca : Nat} {la : List Int} (hza : Zw w0 (.slice CA na ca) la) :
    ∃ one, SeC w0 p D D.n one x (D.after la) CA na ca ∧ one < D.n := by
  have hn1 := hd.ok.n1
  have hn2 := hd.ok.n2
  obtain ⟨f, e1, h1⟩ := place_nat x D.n (by omega)
  refine ⟨f, ?_, h1⟩
  exact {
    count := fun W h => h.count
    p1 := fun W => by
      have := place_any x D.n (by omega) (by omega) hx.1 hx.2 W
      rw [e1] at this
      exact this
    after := fun W h => h.after_ hza
    after2 := fun W A n c l h hz => (h.after hz).mono fun e w' ⟨he, hf⟩ => ⟨he, h.to hf⟩
    fixed := fun W h => h.fixed }
theorem newsZ (w : World) (z : Int) : ∀ (j : Nat) (u : Value), (ints [z])[j]? = some u → (w.alloc (.cells #[.int .i64 z] 3)).cell? ((⟨w.heap.size, 0, none⟩ : Addr).add j) = some u := by
  intro j u hu
  match j, hu with
  | 0, hu =>
    injection hu with hu
    subst hu
    exact (Blk.new w 3 #[.int .i64 z]).cell 0
  | _ + 1, hu => simp [ints] at hu
/-- Some choices, in memory of one's own. -/
def Row (B : Nat) (w : World) (v : Value) (l : List Int) : Prop := w.ownsRow B 3 1 v l.length (ints l)
theorem Row.made (w : World) : Row w.heap.size (w.alloc (.cells #[] 3)) (.slice (some ⟨w.heap.size, 0, none⟩) 0 0) [] := World.ownsRow_made w #[] 0 (Nat.le_refl _) (by simp [maxLen]) (by simp)
theorem Row.shape {B : Nat} {w : World} {v : Value} {l : List Int} (h : Row B w v l) : ∃ A cap, v = .slice A l.length cap := by
  obtain ⟨A, cap, h⟩ := own_shape h
  exact ⟨A, cap, h⟩
theorem Row.zw {B : Nat} {w : World} {v : Value} {l : List Int} (h : Row B w v l) : Zw w v l := (Zs.of_own h rfl).zw
theorem Row.kept {B : Nat} {w w' : World} {v : Value} {l : List Int} (h : Row B w v l) (hf : Fr [] w w') : Row B w' v l := by
  rcases h with ⟨h0, h1⟩
  refine ⟨h0, ?_⟩
  rcases h1 with h1 | ⟨g, cap, cur, e, h2, h3, h4⟩
  · exact .inl h1
  · refine .inr ⟨g, cap, cur, e, h2, ?_, h4⟩
    exact (hf.block g (Array.getElem?_eq_some_iff.1 h3).1 (by simp)).trans h3
theorem zw_cell0 {w : World} {A : Option Addr} {n cap : Nat} {l : List Int} (h : Zw w (.slice A n cap) l) (k : Nat) (hk : k < n) : ∃ q o, A = some ⟨q, o, none⟩ ∧ w.cell? ⟨q, o + k, none⟩ = some (.int .i64 (chAt l k)) := by
  obtain ⟨hn, -, -⟩ := h.len
  have hx : l[k]? = some l[k] := List.getElem?_eq_getElem (by omega)
  obtain ⟨q, o, e, -, hc⟩ := h.cell hx
  refine ⟨q, o, e, ?_⟩
  unfold chAt
  rw [hx]
  exact hc
theorem chAt_far {w : World} {A : Option Addr} {n cap : Nat} {l : List Int} (h : Zw w (.slice A n cap) l) (k : Nat) (hk : ¬ k < n) : chAt l k = 0 := by
  obtain ⟨hn, -, -⟩ := h.len
  unfold chAt
  rw [List.getElem?_eq_none (by omega)]
  rfl
theorem Row.next {B : Nat} {w : World} {v : Value} {l : List Int} {z : Int} (h : w.ownsRow B 3 1 v (l.length + 1) (ints l ++ ints [z])) : Row B w v (l ++ [z]) := by
  unfold Row
  have e1 : (l ++ [z]).length = l.length + 1 := by simp
  have e2 : ints (l ++ [z]) = ints l ++ ints [z] := by simp [ints]
  rw [e1, e2]
  exact h
def oC (la lb : List Int) (one k : Nat) : List Int := (List.range k).map (otherC la lb one)
theorem oC_len (la lb : List Int) (one k : Nat) : (oC la lb one k).length = k := by simp [oC]
theorem oC_next (la lb : List Int) (one k : Nat) : oC la lb one (k + 1) = oC la lb one k ++ [otherC la lb one k] := by simp [oC, List.range_succ]
theorem oC_at (la lb : List Int) (one k i : Nat) (h : i < k) : chAt (oC la lb one k) i = otherC la lb one i := by simp [oC, chAt, h]
set_option maxRecDepth 100000 in
set_option maxHeartbeats 8000000 in
theorem self_walk (t : ByteArray) (w : World) (A : Option Addr) (n cap : Nat) (ops : Nat → OpD) (x : Int) (CA CB : Option Addr) (na ca nb cb : Nat) (la lb : List Int) (ht : t.size ≤ maxLen) (ho : OpsD w (.slice A n cap) n ops)
    (hza : Zw w (.slice CA na ca) la) (hzb : Zw w (.slice CB nb cb) lb) (hx : (Lit.int .i64 x).wf = true) :
    Calls Try.prog 11 #[.string t, .slice A n cap, .agg #[.int .i64 x, .slice CA na ca, .slice CB nb cb]] w fun e w' => e = .returned (.bool true) ∧ Fr [] w w' := by
  have hf0 : Fr [] w (w.alloc (.cells #[.int .i64 x, .slice CA na ca, .slice CB nb cb] 87)) := (Fr.refl [] w).alloc _
  have hb0 := Blk.new w 87 #[.int .i64 x, .slice CA na ca, .slice CB nb cb]
  have Hf0 := Lib.hid hf0
  have HX := Lib.hid (wf_le hx)
  by_cases h0 : newE t = 0
  · have HM0 := Lib.hid (made_ok t _ A n cap ops ht (ho.fr hf0) h0)
    have HB := Lib.hid (fun W (hf : Fr [] (w.alloc (.cells #[.int .i64 x, .slice CA na ca, .slice CB nb cb] 87)) W) => (show W.cell? ⟨w.heap.size, 0, none⟩ = some (.int .i64 x) ∧ W.cell? ⟨w.heap.size, 1, none⟩ = some (.slice CA na ca) ∧ W.cell? ⟨w.heap.size, 2, none⟩ = some (.slice CB nb cb) from ⟨hf.cell_some (hb0.cell 0) (by simp), hf.cell_some (hb0.cell 1) (by simp), hf.cell_some (hb0.cell 2) (by simp)⟩))
    have HZ := Lib.hid (And.intro (hza.fr hf0 (NoZ.nil _)) (hzb.fr hf0 (NoZ.nil _)))
    obtain ⟨hna, -, -⟩ := hza.len
    obtain ⟨hnb, -, -⟩ := hzb.len
    have Hlen := Lib.hid (And.intro hna hnb)
    clear ho hza hzb h0 ht hf0 hb0 hx hna hnb
    go_enter Try.func11, Try.ntmps11
    go_wp2_with (go_at_call 45; refine HM0.out.mono ?_; rintro e w1 ⟨p, D, rfl, hd, hc, hts⟩; obtain ⟨one, hC, hone⟩ := seC hd x HX.out HZ.out.1; have K := Lib.hid hC; have hn2 := hd.ok.n2; have q1 : (128 * (D.n : Int)).tdiv 128 = D.n := (by rw [Int.tdiv_eq_ediv_of_nonneg (by omega)]; omega); obtain ⟨N, hN⟩ : ∃ N, D.n = N := ⟨_, rfl⟩; rw [hN] at K hone hn2 q1 hts; have HN := Lib.hid hN; have Hone := Lib.hid hone; have Hn2 := Lib.hid hn2; clear hC hc HM0 hN hone)
    go_wp2_with (go_at_call 29; have hq := K.out.count _ hd; refine hq.mono ?_; rintro e w4 ⟨rfl, rfl⟩; clear hq)
    have k0 := (HB.out _ hd.fr).1
    have hd2 := hd.drew
    clear hd
    go_region_held3 (fun W => W.cell? ⟨w.heap.size, 0, none⟩ = some (.int .i64 x)) (first | exact k0 | go_keep) (first
      | (go_at_call 29; have hq := K.out.count _ hd2; refine hq.mono ?_; rintro e w5 ⟨rfl, rfl⟩; clear hq)
      | (go_at_call 47; refine (K.out.p1 _).mono ?_; rintro e w6 ⟨rfl, rfl⟩))
    obtain ⟨i0, hi0, hz0, hz1, hz2⟩ := info3 Try.info3
    have HD := Lib.hid hd2
    have HW := Lib.hid hd2.fr
    clear hd2 k0
    generalize w1.drew = WS at *
    have HR0 := Lib.hid (show Row WS.heap.size (WS.alloc (.cells #[] 3)) (.slice (some ⟨WS.heap.size, 0, none⟩) 0 0) (oC la lb one 0) from Row.made WS)
    have HF0 := Lib.hid ((Fr.refl [] WS).alloc (.cells #[] 3))
    go_wp2_with fail
    go_loopg [11, 12] N (fun gg v11 v12 wr => ∃ (k : Nat) (A1 : Option Addr) (c1 : Nat), k + gg = N ∧ v12 = .int .i64 (k : Int) ∧ v11 = .slice A1 k c1 ∧ Row WS.heap.size wr (.slice A1 k c1) (oC la lb one k) ∧ Fr [] WS wr)
    case atStart => exact ⟨0, _, _, by omega, rfl, rfl, HR0.out, HF0.out⟩
    case round =>
      obtain ⟨k, A1, c1, hk, rfl, rfl, hrow, hfr⟩ := hrel
      have Hk := Lib.hid hk
      have Hrow := Lib.hid hrow
      have Hfr := Lib.hid hfr
      have hDr := HD.out.to hfr
      obtain ⟨b0, b1, b2⟩ := HB.out _ hDr.fr
      have Hza := Lib.hid (HZ.out.1.fr hDr.fr (NoZ.nil _))
      have Hzb := Lib.hid (HZ.out.2.fr hDr.fr (NoZ.nil _))
      have HcN := Lib.hid (K.out.count _ hDr)
      clear hk hrow hfr hDr HR0 HF0
      by_cases hlt : k < N
      · have hlt' : (k : Int) < (N : Int) := by omega
        have hk0 : (0 : Int) ≤ (k : Int) := by omega
        have hw1 : IntKind.i64.wrap ((k : Int) + 1) = (k : Int) + 1 := IntWalk.i64_in _ (by have := Hn2.out; omega)
        by_cases hb : k < nb
        · have hb' : (k : Int) < (nb : Int) := by omega
          obtain ⟨qb, ob, rfl, cb1⟩ := zw_cell0 Hzb.out k hb
          by_cases h1 : k = one
          · subst h1
            by_cases ha : k < na
            · have ha' : (k : Int) < (na : Int) := by omega
              obtain ⟨qa, oa, rfl, ca1⟩ := zw_cell0 Hza.out k ha
              have HzV := Lib.hid (show otherC la lb k k = chAt la k by exact if_pos rfl)
              have Hrow2 := Lib.hid (Hrow.out.kept ((Fr.refl [] wr).alloc (.cells #[.int .i64 (chAt la k)] 3)))
              have Hfr2 := Lib.hid (Hfr.out.alloc (.cells #[.int .i64 (chAt la k)] 3))
              have hsz2 := Hfr2.out.size
              have hkm : k ≤ 4096 := by have := Hn2.out; omega
              unfold Row at Hrow2
              rw [oC_len] at Hrow2
              go_wp2_with (first
                | (go_at_call 29; refine HcN.out.mono ?_; rintro e w5 ⟨rfl, rfl⟩)
                | (at_builtin; go_must (refine wpList_append_own _ rfl (.tmp 72) (.tmp 74) 42 rfl WS.heap.size 3 i0 (.int .i64 0) 1 8 Try.underlying42 hi0 hz0 hz1 hz2 rfl (by decide) _ k _ rfl Hrow2.out ⟨wr.heap.size, 0, none⟩ 1 1 (ints [chAt la k]) rfl rfl (newsZ wr (chAt la k)) (ints_one _) (by simp only [maxLen]; omega) (by omega) hsz2 ?_; intro v1 w9 hown1 hg1 hnn; have HF9 := Lib.hid (Hfr2.out.own Hrow2.out hg1); have HO9 := Lib.hid hown1; clear hown1 hg1 hnn)))
              obtain ⟨A9, c9, rfl⟩ := own_shape HO9.out
              go_roundg (N - (k + 1))
              case measure => have := Hk.out; omega
              case rel =>
                refine ⟨k + 1, A9, c9, by have := Hk.out; omega, by go_num, rfl, ?_, HF9.out⟩
                rw [oC_next, HzV.out]
                exact Row.next (by rw [oC_len]; exact HO9.out)
            · have ha' : ¬ (k : Int) < (na : Int) := by omega
              have HzV := Lib.hid (show otherC la lb k k = 0 by exact (if_pos rfl).trans (chAt_far Hza.out k ha))
              have Hrow2 := Lib.hid (Hrow.out.kept ((Fr.refl [] wr).alloc (.cells #[.int .i64 (0)] 3)))
              have Hfr2 := Lib.hid (Hfr.out.alloc (.cells #[.int .i64 (0)] 3))
              have hsz2 := Hfr2.out.size
              have hkm : k ≤ 4096 := by have := Hn2.out; omega
              unfold Row at Hrow2
              rw [oC_len] at Hrow2
              go_wp2_with (first
                | (go_at_call 29; refine HcN.out.mono ?_; rintro e w5 ⟨rfl, rfl⟩)
                | (at_builtin; go_must (refine wpList_append_own _ rfl (.tmp 72) (.tmp 74) 42 rfl WS.heap.size 3 i0 (.int .i64 0) 1 8 Try.underlying42 hi0 hz0 hz1 hz2 rfl (by decide) _ k _ rfl Hrow2.out ⟨wr.heap.size, 0, none⟩ 1 1 (ints [0]) rfl rfl (newsZ wr (0)) (ints_one _) (by simp only [maxLen]; omega) (by omega) hsz2 ?_; intro v1 w9 hown1 hg1 hnn; have HF9 := Lib.hid (Hfr2.out.own Hrow2.out hg1); have HO9 := Lib.hid hown1; clear hown1 hg1 hnn)))
              obtain ⟨A9, c9, rfl⟩ := own_shape HO9.out
              go_roundg (N - (k + 1))
              case measure => have := Hk.out; omega
              case rel =>
                refine ⟨k + 1, A9, c9, by have := Hk.out; omega, by go_num, rfl, ?_, HF9.out⟩
                rw [oC_next, HzV.out]
                exact Row.next (by rw [oC_len]; exact HO9.out)
          · have h1' : ¬ (k : Int) = (one : Int) := by omega
            have HzV := Lib.hid (show otherC la lb one k = chAt lb k by exact if_neg h1)
            have Hrow2 := Lib.hid (Hrow.out.kept ((Fr.refl [] wr).alloc (.cells #[.int .i64 (chAt lb k)] 3)))
            have Hfr2 := Lib.hid (Hfr.out.alloc (.cells #[.int .i64 (chAt lb k)] 3))
            have hsz2 := Hfr2.out.size
            have hkm : k ≤ 4096 := by have := Hn2.out; omega
            unfold Row at Hrow2
            rw [oC_len] at Hrow2
            go_wp2_with (first
              | (go_at_call 29; refine HcN.out.mono ?_; rintro e w5 ⟨rfl, rfl⟩)
              | (at_builtin; go_must (refine wpList_append_own _ rfl (.tmp 72) (.tmp 74) 42 rfl WS.heap.size 3 i0 (.int .i64 0) 1 8 Try.underlying42 hi0 hz0 hz1 hz2 rfl (by decide) _ k _ rfl Hrow2.out ⟨wr.heap.size, 0, none⟩ 1 1 (ints [chAt lb k]) rfl rfl (newsZ wr (chAt lb k)) (ints_one _) (by simp only [maxLen]; omega) (by omega) hsz2 ?_; intro v1 w9 hown1 hg1 hnn; have HF9 := Lib.hid (Hfr2.out.own Hrow2.out hg1); have HO9 := Lib.hid hown1; clear hown1 hg1 hnn)))
            obtain ⟨A9, c9, rfl⟩ := own_shape HO9.out
            go_roundg (N - (k + 1))
            case measure => have := Hk.out; omega
            case rel =>
              refine ⟨k + 1, A9, c9, by have := Hk.out; omega, by go_num, rfl, ?_, HF9.out⟩
              rw [oC_next, HzV.out]
              exact Row.next (by rw [oC_len]; exact HO9.out)
        · have hb' : ¬ (k : Int) < (nb : Int) := by omega
          by_cases h1 : k = one
          · subst h1
            by_cases ha : k < na
            · have ha' : (k : Int) < (na : Int) := by omega
              obtain ⟨qa, oa, rfl, ca1⟩ := zw_cell0 Hza.out k ha
              have HzV := Lib.hid (show otherC la lb k k = chAt la k by exact if_pos rfl)
              have Hrow2 := Lib.hid (Hrow.out.kept ((Fr.refl [] wr).alloc (.cells #[.int .i64 (chAt la k)] 3)))
              have Hfr2 := Lib.hid (Hfr.out.alloc (.cells #[.int .i64 (chAt la k)] 3))
              have hsz2 := Hfr2.out.size
              have hkm : k ≤ 4096 := by have := Hn2.out; omega
              unfold Row at Hrow2
              rw [oC_len] at Hrow2
              go_wp2_with (first
                | (go_at_call 29; refine HcN.out.mono ?_; rintro e w5 ⟨rfl, rfl⟩)
                | (at_builtin; go_must (refine wpList_append_own _ rfl (.tmp 72) (.tmp 74) 42 rfl WS.heap.size 3 i0 (.int .i64 0) 1 8 Try.underlying42 hi0 hz0 hz1 hz2 rfl (by decide) _ k _ rfl Hrow2.out ⟨wr.heap.size, 0, none⟩ 1 1 (ints [chAt la k]) rfl rfl (newsZ wr (chAt la k)) (ints_one _) (by simp only [maxLen]; omega) (by omega) hsz2 ?_; intro v1 w9 hown1 hg1 hnn; have HF9 := Lib.hid (Hfr2.out.own Hrow2.out hg1); have HO9 := Lib.hid hown1; clear hown1 hg1 hnn)))
              obtain ⟨A9, c9, rfl⟩ := own_shape HO9.out
              go_roundg (N - (k + 1))
              case measure => have := Hk.out; omega
              case rel =>
                refine ⟨k + 1, A9, c9, by have := Hk.out; omega, by go_num, rfl, ?_, HF9.out⟩
                rw [oC_next, HzV.out]
                exact Row.next (by rw [oC_len]; exact HO9.out)
            · have ha' : ¬ (k : Int) < (na : Int) := by omega
              have HzV := Lib.hid (show otherC la lb k k = 0 by exact (if_pos rfl).trans (chAt_far Hza.out k ha))
              have Hrow2 := Lib.hid (Hrow.out.kept ((Fr.refl [] wr).alloc (.cells #[.int .i64 (0)] 3)))
              have Hfr2 := Lib.hid (Hfr.out.alloc (.cells #[.int .i64 (0)] 3))
              have hsz2 := Hfr2.out.size
              have hkm : k ≤ 4096 := by have := Hn2.out; omega
              unfold Row at Hrow2
              rw [oC_len] at Hrow2
              go_wp2_with (first
                | (go_at_call 29; refine HcN.out.mono ?_; rintro e w5 ⟨rfl, rfl⟩)
                | (at_builtin; go_must (refine wpList_append_own _ rfl (.tmp 72) (.tmp 74) 42 rfl WS.heap.size 3 i0 (.int .i64 0) 1 8 Try.underlying42 hi0 hz0 hz1 hz2 rfl (by decide) _ k _ rfl Hrow2.out ⟨wr.heap.size, 0, none⟩ 1 1 (ints [0]) rfl rfl (newsZ wr (0)) (ints_one _) (by simp only [maxLen]; omega) (by omega) hsz2 ?_; intro v1 w9 hown1 hg1 hnn; have HF9 := Lib.hid (Hfr2.out.own Hrow2.out hg1); have HO9 := Lib.hid hown1; clear hown1 hg1 hnn)))
              obtain ⟨A9, c9, rfl⟩ := own_shape HO9.out
              go_roundg (N - (k + 1))
              case measure => have := Hk.out; omega
              case rel =>
                refine ⟨k + 1, A9, c9, by have := Hk.out; omega, by go_num, rfl, ?_, HF9.out⟩
                rw [oC_next, HzV.out]
                exact Row.next (by rw [oC_len]; exact HO9.out)
          · have h1' : ¬ (k : Int) = (one : Int) := by omega
            have HzV := Lib.hid (show otherC la lb one k = 0 by exact (if_neg h1).trans (chAt_far Hzb.out k hb))
            have Hrow2 := Lib.hid (Hrow.out.kept ((Fr.refl [] wr).alloc (.cells #[.int .i64 (0)] 3)))
            have Hfr2 := Lib.hid (Hfr.out.alloc (.cells #[.int .i64 (0)] 3))
            have hsz2 := Hfr2.out.size
            have hkm : k ≤ 4096 := by have := Hn2.out; omega
            unfold Row at Hrow2
            rw [oC_len] at Hrow2
            go_wp2_with (first
              | (go_at_call 29; refine HcN.out.mono ?_; rintro e w5 ⟨rfl, rfl⟩)
              | (at_builtin; go_must (refine wpList_append_own _ rfl (.tmp 72) (.tmp 74) 42 rfl WS.heap.size 3 i0 (.int .i64 0) 1 8 Try.underlying42 hi0 hz0 hz1 hz2 rfl (by decide) _ k _ rfl Hrow2.out ⟨wr.heap.size, 0, none⟩ 1 1 (ints [0]) rfl rfl (newsZ wr (0)) (ints_one _) (by simp only [maxLen]; omega) (by omega) hsz2 ?_; intro v1 w9 hown1 hg1 hnn; have HF9 := Lib.hid (Hfr2.out.own Hrow2.out hg1); have HO9 := Lib.hid hown1; clear hown1 hg1 hnn)))
            obtain ⟨A9, c9, rfl⟩ := own_shape HO9.out
            go_roundg (N - (k + 1))
            case measure => have := Hk.out; omega
            case rel =>
              refine ⟨k + 1, A9, c9, by have := Hk.out; omega, by go_num, rfl, ?_, HF9.out⟩
              rw [oC_next, HzV.out]
              exact Row.next (by rw [oC_len]; exact HO9.out)
      · have hlt' : ¬ (k : Int) < (N : Int) := by omega
        have hkN : k = N := by have := Hk.out; omega
        subst hkN
        have hzr := Hrow.out.zw
        have Hd3 := Lib.hid (HD.out.to Hfr.out)
        have HA1 := Lib.hid (Hd3.out.after Hza.out)
        have HA2 := Lib.hid (fun (W : World) (hf : Fr [] wr W) => (Hd3.out.to hf).after (hzr.fr hf (NoZ.nil _)))
        have HE := Lib.hid (after_one D la (otherC la lb one) one (by have := Hone.out; have := HN.out; omega) (if_pos rfl) (oC la lb one k) (fun i hi => oC_at _ _ _ _ _ (by have := HN.out; omega)))
        have s1 : (D.after la).size = 128 * k := by rw [after_sz, HN.out]
        have s2 : (D.after (oC la lb one k)).size = 128 * k := by rw [after_sz, HN.out]
        generalize D.after la = LA at *
        generalize D.after (oC la lb one k) = LB at *
        have Ho := Hone.out
        have Hn := Hn2.out
        have v4 : IntKind.i64.wrap (128 * (one : Int)) = 128 * (one : Int) := IntWalk.i64_in _ (by omega)
        have v5 : IntKind.i64.wrap (128 * (one : Int) + 128) = 128 * (one : Int) + 128 := IntWalk.i64_in _ (by omega)
        obtain ⟨P, hP⟩ : ∃ P, LA.extract (128 * one) (128 * one + 128) = P := ⟨_, rfl⟩
        have m1 := fun wx => (sl_lh LA (128 * one) (128 * one + 128) (128 * (one : Int)) (128 * (one : Int) + 128) (by omega) (by omega) wx (by omega) (by omega)).trans (by rw [hP])
        have m2 := fun wx => (sl_lh LB (128 * one) (128 * one + 128) (128 * (one : Int)) (128 * (one : Int) + 128) (by omega) (by omega) wx (by omega) (by omega)).trans (by rw [HE.out, hP])
        clear hzr Hza Hzb hP Ho Hn
        go_wp2_with (first
          | (go_at_call 29; refine HcN.out.mono ?_; rintro e w5 ⟨rfl, rfl⟩)
          | (go_at_call 49; first | (refine HA1.out.mono ?_; clear HA1; rintro e w7 ⟨rfl, hf7⟩) | (refine (HA2.out _ hf7).mono ?_; clear HA2; rintro e w8 ⟨rfl, hf8⟩)))
        have hd6 := (Hd3.out.to (hf7.trans hf8)).drew
        go_region_held3 (fun W => True) (exact trivial) (first
          | (go_at_call 46; refine (K.out.fixed _ hd6).mono ?_; rintro e w9 ⟨rfl, hd9⟩))
        go_wp2_with fail
        go_ret
        exact ⟨rfl, Hf0.out.trans hd9.fr⟩
  · have HM0 := Lib.hid (made_bad t _ A n cap ops ht (ho.fr hf0) h0)
    have HN := Lib.hid (fun W => none_walk t W h0 ht)
    have HFx := Lib.hid fixed07_any
    clear ho hza hzb h0 ht hf0 hb0
    go_enter Try.func11, Try.ntmps11
    go_wp2_with (first
      | (go_at_call 45; refine HM0.out.mono ?_; rintro e w1 ⟨rfl, hf1⟩)
      | (go_at_call 35; refine (HN.out _).mono ?_; rintro e w2 ⟨rfl, hf2⟩)
      | (go_at_call 46; refine (HFx.out _).mono ?_; rintro e w3 ⟨rfl, hf3⟩))
    go_ret
    exact ⟨rfl, Hf0.out.trans (hf1.trans (hf2.trans hf3))⟩
end Go.Proofs.Ythmnloapjdalpaa

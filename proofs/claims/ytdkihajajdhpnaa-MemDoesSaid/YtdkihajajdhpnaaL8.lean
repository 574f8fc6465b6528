/- MemDoes, walked. -/
import Derived.Test.YtdkihajajdhpnaaW24
namespace Go.Proofs.Ytdkihajajdhpnaa
open Go.RowKit
set_option linter.unusedVariables false
set_option linter.unusedSimpArgs false
attribute [local go_sem ↓] Go.wp_at_zero Go.wp_at_succ
/-- A frame that is asked for. -/
def frA (st : St) (f : Int) : ByteArray := if f < 0 ∨ (st.n : Int) ≤ f then ⟨#[]⟩ else frS st f.toNat
theorem Frame_any (p F : Nat) (st : St) (w : World) (f : Int) (h : MemAt w p F st) : Calls Try.prog 26 #[ptr p, .int .i64 f] w fun e w' => e = .returned (.tuple #[.string (frA st f), .int .i64 (clE st.n f)]) ∧ w = w' := by
  by_cases hf : f < 0 ∨ (st.n : Int) ≤ f
  · have e1 : frA st f = ⟨#[]⟩ := if_pos hf
    have e2 : clE st.n f = 83 := if_pos hf
    rw [e1, e2]
    exact Frame_bad p F st w f h hf
  · obtain ⟨k, rfl⟩ := Int.eq_ofNat_of_zero_le (by omega : 0 ≤ f)
    have e1 : frA st k = frS st k := if_neg hf
    have e2 : clE st.n k = 0 := if_neg hf
    rw [e1, e2]
    exact Frame_ok p F st w k h (by omega)
theorem rFrame_any (q G : Nat) (st : St) (w : World) (f : Int) (h : RMem w q G st) : Calls Try.prog 27 #[ptr q, .int .i64 f] w fun e w' => e = .returned (.tuple #[.string (frA st f), .int .i64 (clE st.n f)]) ∧ w = w' := by
  by_cases hf : f < 0 ∨ (st.n : Int) ≤ f
  · have e1 : frA st f = ⟨#[]⟩ := if_pos hf
    have e2 : clE st.n f = 83 := if_pos hf
    rw [e1, e2]
    exact rFrame_bad q G st w f h hf
  · obtain ⟨k, rfl⟩ := Int.eq_ofNat_of_zero_le (by omega : 0 ≤ f)
    have e1 : frA st k = frS st k := if_neg hf
    have e2 : clE st.n k = 0 := if_neg hf
    rw [e1, e2]
    exact rFrame_ok q G st w k h (by omega)
/-- Tables that came in. -/
def TabsIn (w : World) (B : Option Addr) (nl : Nat) (tv : Nat → Value) : Prop :=
  ∀ i, i < nl → (∃ b off, B = some ⟨b, off, none⟩ ∧ w.cell? ⟨b, off + i, none⟩ = some (tv i)) ∧ ∃ A m c tb t, tv i = .slice A m c ∧ Tb w tb (.slice A m c) t
/-- The blocks of two memories lie apart. -/
theorem DoN.of {W : World} {p F q G tb m c : Nat} {A : Option Addr} {t : List Pg} {st st' : St} (hm : MemAt W p F st) (hx : RMem W q G st') (h1 : tb ≠ F) (h2 : tb ≠ G) : DoN ⟨p, F, q, G, tb, A, m, c, t⟩ := by
  have a1 := hm.ne
  have a2 := hx.ne
  obtain ⟨⟨⟨cap, hbp, _⟩, _⟩, cs, hbF, _⟩ := hm
  obtain ⟨⟨⟨cap', hbq, _⟩, _⟩, cs', hbG, _⟩ := hx
  exact ⟨⟨a1, hbq.ne_ hbF (by decide), hbG.ne_ hbF (by decide), h1⟩, ⟨hbp.ne_ hbG (by decide), a2, hbF.ne_ hbG (by decide), h2⟩⟩
theorem RMem.sl {w : World} {q G : Nat} {st : St} (h : RMem w q G st) (cap : Nat) (h1 : st.n ≤ cap) (h2 : cap ≤ maxLen) : Sl w 9 1 (.slice (some ⟨G, 0, none⟩) st.n cap) st.n (encS (framesL st st.n)) := by
  obtain ⟨hd, cs, hb, hc⟩ := h
  refine ⟨by simp [encS, framesL], .inr ⟨G, 0, cap, cs, rfl, h1, h2, hb, fun j u hj => ?_⟩⟩
  have hlt : j < st.n := by have := (List.getElem?_eq_some_iff.1 hj).1; simpa [encS, framesL] using this
  rw [Nat.zero_add, hc j hlt, ← hj]
  simp [encS, framesL, hlt]
/-- The cells that the calls' region reads: a call of the script, and the head of the reference's memory. -/
def Cel (bo o q G n cap : Nat) (On K a b c : Int) (S : ByteArray) (W : World) : Prop :=
  W.cell? ⟨bo, o, none⟩ = some (.int .i64 On) ∧ W.cell? ⟨bo, o + 1, none⟩ = some (.int .i64 K) ∧ W.cell? ⟨bo, o + 2, none⟩ = some (.int .i64 a) ∧ W.cell? ⟨bo, o + 3, none⟩ = some (.int .i64 b) ∧
    W.cell? ⟨bo, o + 4, none⟩ = some (.int .i64 c) ∧ W.cell? ⟨bo, o + 5, none⟩ = some (.string S) ∧ W.cell? ⟨q, 0, none⟩ = some (.slice (some ⟨G, 0, none⟩) n cap)
theorem Cel.fr {bo o q G n cap : Nat} {On K a b c : Int} {S : ByteArray} {W W' : World} {T : List Nat} (h : Cel bo o q G n cap On K a b c S W) (hf : Fr T W W') (h1 : bo ∉ T) (h2 : q ∉ T) : Cel bo o q G n cap On K a b c S W' :=
  ⟨hf.cell_some h.1 h1, hf.cell_some h.2.1 h1, hf.cell_some h.2.2.1 h1, hf.cell_some h.2.2.2.1 h1, hf.cell_some h.2.2.2.2.1 h1, hf.cell_some h.2.2.2.2.2.1 h1, hf.cell_some h.2.2.2.2.2.2 h2⟩
set_option maxRecDepth 100000 in
set_option maxHeartbeats 400000 in
theorem mdoes_bad (many : Int) (w : World) (h : many < 1 ∨ 160 < many) (B As : Option Addr) (nl cl ns cs : Nat) :
    Calls Try.prog 6 #[.int .i64 many, .slice B nl cl, .slice As ns cs] w fun e w' => e = .returned (.bool true) ∧ Fr [] w w' := by
  have Hn := Lib.hid fun W => New_bad many W h
  have Hr := Lib.hid fun W => rNew_bad many W h
  have Hx := Lib.hid fun W => fixed_any W
  clear h
  go_enter Try.func6, Try.ntmps6
  go_wp2_with (first
    | (go_at_call 10; go_must ((with_reducible refine (Hn.out _).mono ?_); rintro e w1 ⟨rfl, rfl⟩))
    | (go_at_call 19; go_must ((with_reducible refine (Hr.out _).mono ?_); rintro e w1 ⟨rfl, rfl⟩))
    | (go_at_call 11; go_must ((with_reducible refine (Hx.out _).mono ?_); rintro e w1 ⟨rfl, hf1⟩))
    | fail)
  go_ret
  exact ⟨rfl, hf1⟩
set_option maxRecDepth 100000 in
set_option maxHeartbeats 8000000 in
theorem mdoes_ok (n : Nat) (w : World) (B As : Option Addr) (nl cl ns cs : Nat) (tv : Nat → Value) (ops : Nat → OpM) (h1 : 1 ≤ n) (h2 : n ≤ 160) (hnl : nl ≤ maxLen) (htv : TabsIn w B nl tv) (ho : OpsIn w (.slice As ns cs) ns ops) :
    Calls Try.prog 6 #[.int .i64 n, .slice B nl cl, .slice As ns cs] w fun e w' => e = .returned (.bool true) ∧ Fr [] w w' := by
  have Hn := Lib.hid fun W => New_any n W h1 h2
  have Hr := Lib.hid fun W => rNew_any n W h1 h2
  have Hx := Lib.hid fun W => fixed_any W
  have Htv := Lib.hid htv
  have Ho := Lib.hid ho
  have hnn := ho.1
  simp only [maxLen] at hnn
  clear htv ho
  go_enter Try.func6, Try.ntmps6
  go_wp2_with (first
    | (go_at_call 10; go_must ((with_reducible refine (Hn.out _).mono ?_); rintro e w1 ⟨p, F, rfl, hm1, hf1, hp1, hF1⟩))
    | (go_at_call 19; go_must ((with_reducible refine (Hr.out _).mono ?_); rintro e w2 ⟨q, G, rfl, hx2, hf2, hq2, hG2⟩))
    | (go_at_call 11; go_must ((with_reducible refine (Hx.out _).mono ?_); rintro e w3 ⟨rfl, hf3⟩))
    | fail)
  have HM3 := Lib.hid ((hm1.to hf2 (by simp) (by simp)).to hf3 (by simp) (by simp))
  have HX3 := Lib.hid (hx2.to hf3 (by simp) (by simp))
  have HF3 := Lib.hid ((hf1.trans hf2).trans hf3)
  have HGe : Hid (w.heap.size ≤ G ∧ w.heap.size ≤ F) := Lib.hid (by have := hf1.size; omega)
  clear hm1 hx2 hf1 hf2 hf3 hp1 hF1 hq2 hG2
  obtain ⟨st0, hst0⟩ : ∃ st0 : St, (⟨n, fun _ => 0⟩ : St) = st0 := ⟨_, rfl⟩
  rw [hst0] at HM3 HX3
  have Hn0 : Hid (st0.n = n) := Lib.hid (by rw [← hst0])
  clear hst0
  go_loopg [7, 11] ns (fun gg y i wr => ∃ (k p F : Nat) (st : St), k + gg = ns ∧ i = .int .i64 k ∧ y = ptr p ∧ st.n = n ∧ MemAt wr p F st ∧ RMem wr q G st ∧ w.heap.size ≤ F ∧ Fr [] w wr)
  case atStart => exact ⟨0, p, F, st0, by omega, rfl, rfl, Hn0.out, HM3.out, HX3.out, HGe.out.2, HF3.out⟩
  case round =>
    obtain ⟨k, p, F, st, hk, rfl, rfl, hst, hM, hX, hFw, hf⟩ := hrel
    have Hk := Lib.hid hk
    have HM := Lib.hid hM
    have HX := Lib.hid hX
    have Hst := Lib.hid hst
    have Hf := Lib.hid hf
    have HFw := Lib.hid hFw
    by_cases hlt : k < ns
    · have hki : (k : Int) < (ns : Int) := by omega
      have hk0 : (0 : Int) ≤ (k : Int) := by omega
      obtain ⟨bo, off, rfl, hbl, j0, j1, j2, j3, j4, j5⟩ := (Ho.out.fr hf).at_ hlt
      have hbo : bo < w.heap.size := by
        obtain ⟨b', off', hA', hb', _⟩ := Ho.out.at_ hlt
        injection hA' with hA'
        injection hA' with hA' _
        omega
      obtain ⟨oOn, oK, oa, ob, oc, oS, k0, k1, k2, k3, k4, k5, hao, hOn, hoS⟩ : ∃ (oOn oK oa ob oc : Int) (oS : ByteArray), wr.cell? ⟨bo, off + k * 6, none⟩ = some (.int .i64 oOn) ∧ wr.cell? ⟨bo, off + k * 6 + 1, none⟩ = some (.int .i64 oK) ∧ wr.cell? ⟨bo, off + k * 6 + 2, none⟩ = some (.int .i64 oa) ∧
          wr.cell? ⟨bo, off + k * 6 + 3, none⟩ = some (.int .i64 ob) ∧ wr.cell? ⟨bo, off + k * 6 + 4, none⟩ = some (.int .i64 oc) ∧ wr.cell? ⟨bo, off + k * 6 + 5, none⟩ = some (.string oS) ∧ oa ≤ 9223372036854775807 ∧ (-9223372036854775808 ≤ oOn ∧ oOn ≤ 9223372036854775807) ∧ oS.size ≤ maxLen :=
        ⟨_, _, _, _, _, _, j0, j1, j2, j3, j4, j5, by have := bounds_i64 (ops k).hA; omega, by have := bounds_i64 (ops k).hOn; omega, (ops k).hS⟩
      clear j0 j1 j2 j3 j4 j5
      have HK := Lib.hid (And.intro k0 (And.intro k1 (And.intro k2 (And.intro k3 (And.intro k4 k5)))))
      have Hoo := Lib.hid (And.intro hao hoS)
      have Hbo := Lib.hid hbo
      have hpick := Lib.hid (pick_any nl cl B oOn wr tv (fun i hi => by obtain ⟨_, A, m, c, tb, t, e, _⟩ := Htv.out i hi; exact ⟨A, m, c, e⟩) hnl hOn (fun i hi => by
        obtain ⟨⟨b, off, e, hc⟩, _⟩ := Htv.out i hi
        exact ⟨b, off, e, hf.cell_some hc (by simp)⟩))
      clear hk hM hX hst hf hFw hbl hao hOn hoS hbo
      go_wp2_with fail
      refine hpick.out.mono ?_
      rintro e w4 ⟨he, rfl⟩
      obtain ⟨A, m, c, tb, t, rfl, htb, htl⟩ : ∃ A m c tb t, e = .returned (.slice A m c) ∧ Tb wr tb (.slice A m c) t ∧ (tb < w.heap.size ∨ tb = q) := by
        have hempty : Tb wr q (.slice none 0 0) [] := ⟨by simp, none, 0, rfl, fun i p hi => by simp at hi⟩
        rcases he with ⟨_, he⟩ | ⟨i, hi, he⟩
        · exact ⟨none, 0, 0, q, [], he, hempty, .inr rfl⟩
        · obtain ⟨_, A, m, c, tb, t, e1, ht⟩ := Htv.out i hi
          rw [e1] at he
          by_cases ht0 : t = []
          · subst ht0
            refine ⟨A, m, c, q, [], he, ⟨by simp, ?_⟩, .inr rfl⟩
            obtain ⟨_, A', cap', hv, _⟩ := ht
            exact ⟨A', cap', hv, fun i p hi => by simp at hi⟩
          · obtain ⟨p0, hp0⟩ : ∃ p0, t[0]? = some p0 := by
              cases t with
              | nil => exact absurd rfl ht0
              | cons a b => exact ⟨a, rfl⟩
            obtain ⟨_, _, hlt, _⟩ := ht.at_ hp0
            exact ⟨A, m, c, tb, t, he, ht.fr Hf.out (by simp), .inl hlt⟩
      have Htb := Lib.hid htb
      have Htl := Lib.hid htl
      clear he htb htl hpick
      obtain ⟨c0, c1, c2, c3, c4, c5⟩ := HK.out
      have hqF : Hid (q ≠ F ∧ G ≠ F ∧ q ≠ G) := by
        have hN := DoN.of (A := A) (t := t) (m := m) (c := c) (tb := q) HM.out HX.out (by
          obtain ⟨⟨⟨cap', hbq, _⟩, _⟩, _⟩ := HX.out
          obtain ⟨_, cs, hbF, _⟩ := HM.out
          exact hbq.ne_ hbF (by decide)) HX.out.ne
        exact Lib.hid ⟨hN.f.2.1, hN.f.2.2.1, HX.out.ne⟩
      by_cases c6 : oK = 6
      · subst c6
        go_wp2_with fail
        refine (Clone_any p F st wr HM.out).mono ?_
        rintro e w5 ⟨p1, F1, rfl, hm5, hf5, hp5, hF5⟩
        have hcl := Lib.hid (Clear_any p F st w5 0 (HM.out.to hf5 (by simp) (by simp)))
        have hlF := HM.out.ltF
        have hlp := HM.out.hd.lt
        have HM5 := Lib.hid hm5
        have Hf5 := Lib.hid hf5
        have H5 : Hid (p1 ≠ F ∧ F1 ≠ F ∧ w.heap.size ≤ F1) := Lib.hid (by have := Hf.out.size; omega)
        clear hm5 hf5 hp5 hF5 hlF hlp
        go_wp2_with fail
        refine hcl.out.mono ?_
        rintro e w6 ⟨rfl, -, hf6⟩
        have HMx := Lib.hid (HM5.out.to hf6 (by have := H5.out; simp; omega) (by have := H5.out; simp; omega))
        have HXx := Lib.hid ((HX.out.to Hf5.out (by simp) (by simp)).to hf6 (by simpa using hqF.out.1) (by simpa using hqF.out.2.1))
        have HTx := Lib.hid ((Htb.out.fr Hf5.out (by simp)).fr hf6 (by
          have := HFw.out
          have := hqF.out
          rcases Htl.out with h | h
          · simp; omega
          · simp; omega))
        have HFx := Lib.hid ((Hf.out.trans Hf5.out).late hf6 HFw.out)
        have HF1 := Lib.hid H5.out.2.2
        obtain ⟨cap, hcap, hcap1, hcap2⟩ := HXx.out.hd.cell
        have HCx : Hid (Cel bo (off + k * 6) q G st.n cap oOn 6 oa ob oc oS w6) := Lib.hid (by
          have hb := Hbo.out
          have hw := HFw.out
          have h1 : bo ∉ [F] := by simp; omega
          have hff := (Hf5.out.mono (S' := [F]) (by simp)).trans hf6
          exact ⟨hff.cell_some c0 h1, hff.cell_some c1 h1, hff.cell_some c2 h1, hff.cell_some c3 h1, hff.cell_some c4 h1, hff.cell_some c5 h1, hcap⟩)
        clear hf6 hcl hcap c0 c1 c2 c3 c4 c5
        obtain ⟨L, hL⟩ : ∃ L : DoL, L = ⟨p1, F1, q, G, tb, A, m, c, t⟩ := ⟨_, rfl⟩
        have hTF : tb ≠ F1 ∧ tb ≠ G := by
          have h1 := HF1.out
          have h2 := HGe.out
          have h3 := HXx.out.ne
          rcases Htl.out with h | h
          · omega
          · subst h
            refine ⟨?_, h3⟩
            obtain ⟨⟨⟨cap', hbq, _⟩, _⟩, _⟩ := HXx.out
            obtain ⟨_, cs, hbF, _⟩ := HMx.out
            exact hbq.ne_ hbF (by decide)
        have hN : DoN L := by rw [hL]; exact DoN.of HMx.out HXx.out hTF.1 hTF.2
        have hA00 : Do w6 L st st := by
          rw [hL]
          refine ⟨HMx.out, HXx.out, HTx.out, ?_⟩
          show tb < w6.heap.size
          have := HFx.out.size
          have := HXx.out.hd.lt
          have := Htl.out
          omega
        have hA0 : Do w6.drew L st st := hA00.fr ((Fr.refl [] _).drew)
        clear hA00
        obtain ⟨st1, hst1⟩ : ∃ st1, doS st t 6 oa ob oc oS = st1 := ⟨_, rfl⟩
        have hs1n : st1.n = st.n := by rw [← hst1]; exact doS_n ..
        have hFG : L.F = F1 ∧ L.G = G := by rw [hL]; exact ⟨rfl, rfl⟩
        have K23 : Hid (∀ W, Do W L st st → Calls Try.prog 23 #[ptr p1, .slice A m c] W fun e w' => e = .returned (.int .i64 (chT st.n t)) ∧ Fr [] W w') := by subst hL; exact Lib.hid fun W h => Check_any tb p1 F1 st.n m c A t W h.t h.m.hd
        have K24 : Hid (∀ W, Do W L st st → Calls Try.prog 24 #[ptr q, .slice A m c] W fun e w' => e = .returned (.int .i64 (chT st.n t)) ∧ Fr [] W w') := by subst hL; exact Lib.hid fun W h => rCheck_any tb q G st.n m c A t W h.t h.x.hd
        have K25 : Hid (∀ W, Do W L st st → Calls Try.prog 25 #[ptr p1, ptr q, .slice A m c, .agg #[.int .i64 oOn, .int .i64 6, .int .i64 oa, .int .i64 ob, .int .i64 oc, .string oS]] W fun e w' => e = .returned (.bool true) ∧ Do w' L st1 st1 ∧ Fr [F1, G] W w') := by
          refine Lib.hid fun W h => (does_any p1 F1 q G tb m c A t st oOn 6 oa ob oc oS W L hL hN h Hoo.out.1 Hoo.out.2).mono fun e w' ⟨he, hd, hf⟩ => ⟨he, by rw [← hst1]; exact hd, by rw [hFG.1, hFG.2] at hf; exact hf⟩
        have K17 : Hid (∀ W, Do W L st1 st1 → Calls Try.prog 17 #[ptr p1] W fun e w' => e = .returned (.int .i64 st.n) ∧ W = w') := by subst hL; rw [← hs1n]; exact Lib.hid fun W h => Frames_any p1 F1 st1 W h.m
        have K26 : Hid (∀ W, Do W L st1 st1 → Calls Try.prog 26 #[ptr p1, .int .i64 oa] W fun e w' => e = .returned (.tuple #[.string (frA st1 oa), .int .i64 (clE st1.n oa)]) ∧ W = w') := by subst hL; exact Lib.hid fun W h => Frame_any p1 F1 st1 W oa h.m
        have K27 : Hid (∀ W, Do W L st1 st1 → Calls Try.prog 27 #[ptr q, .int .i64 oa] W fun e w' => e = .returned (.tuple #[.string (frA st1 oa), .int .i64 (clE st1.n oa)]) ∧ W = w') := by subst hL; exact Lib.hid fun W h => rFrame_any q G st1 W oa h.x
        have KD : Hid (∀ W, Do W L st1 st1 → MemAt W p1 F1 st1 ∧ RMem W q G st1) := by subst hL; exact Lib.hid fun W h => ⟨h.m, h.x⟩
        have hbF : Hid (bo ∉ [F1, G] ∧ q ∉ [F1, G]) := Lib.hid (by
          have h1 := HF1.out
          have h2 := HGe.out
          have h3 := Hbo.out
          have h4 := hN.f.2.1
          have h5 := hN.g.2.1
          rw [hFG.1] at h4
          rw [hFG.2] at h5
          have e1 : L.q = q := by rw [hL]
          rw [e1] at h4 h5
          simp
          omega)
        have Hs1n := Lib.hid hs1n
        have HF0 : Hid (Fr [] w w6.drew) := Lib.hid HFx.out.drew
        have HC0 := HCx.out.fr ((Fr.refl [] w6).drew) (by simp) (by simp)
        clear hL hTF hN hst1 hs1n hFG
        generalize chT st.n t = ch at *
        generalize frA st1 oa = FA at *
        generalize clE st1.n oa = EA at *
        have tok : True := trivial
        go_wp2_with fail
        go_region_held3 (fun w' => w'.cell? ⟨bo, off + k * 6, none⟩ = some (.int .i64 oOn) ∧ w'.cell? ⟨bo, off + k * 6 + 1, none⟩ = some (.int .i64 6) ∧ w'.cell? ⟨bo, off + k * 6 + 2, none⟩ = some (.int .i64 oa) ∧ w'.cell? ⟨bo, off + k * 6 + 3, none⟩ = some (.int .i64 ob) ∧ w'.cell? ⟨bo, off + k * 6 + 4, none⟩ = some (.int .i64 oc) ∧ w'.cell? ⟨bo, off + k * 6 + 5, none⟩ = some (.string oS) ∧ w'.cell? ⟨q, 0, none⟩ = some (.slice (some ⟨G, 0, none⟩) st.n cap))
          (first
            | exact HC0
            | exact kk
            | exact ll
            | exact mm)
          ((first
            | (go_at_call 23; have _t := tok; (with_reducible refine (K23.out _ hA0).mono ?_); rintro e w7 ⟨rfl, hf7⟩; have kk := HC0.fr hf7 (by simp) (by simp); have hA7 := hA0.fr hf7; have hB7 := hA7; clear tok)
            | (go_at_call 24; (with_reducible refine (K24.out _ hB7).mono ?_); rintro e w8 ⟨rfl, hf8⟩; have ll := kk.fr hf8 (by simp) (by simp); have hA8 := hA7.fr hf8)
            | (go_at_call 24; have _t := tok; (with_reducible refine (K24.out _ hA0).mono ?_); rintro e w7 ⟨rfl, hf7⟩; have kk := HC0.fr hf7 (by simp) (by simp); have hA7 := hA0.fr hf7; have hC7 := hA7; clear tok)
            | (go_at_call 23; (with_reducible refine (K23.out _ hC7).mono ?_); rintro e w8 ⟨rfl, hf8⟩; have ll := kk.fr hf8 (by simp) (by simp); have hA8 := hA7.fr hf8)
            | (go_at_call 25; (with_reducible refine (K25.out _ hA8).mono ?_); rintro e w9 ⟨rfl, hA9, hf9⟩; have mm := ll.fr hf9 hbF.out.1 hbF.out.2)
            | (go_at_call 17; (with_reducible refine (K17.out _ hA9).mono ?_); rintro e w10 ⟨rfl, rfl⟩)))
        all_goals
          have HA9 := Lib.hid hA9
          have HF9 : Hid (Fr [] w w9) := Lib.hid (((HF0.out.trans hf7).trans hf8).step hf9 (by have := HF1.out; have := HGe.out; simp; omega))
          obtain ⟨d0, d1, d2, d3, d4, d5, -⟩ := mm
          clear hf7 hf8 hf9 hA9 HC0 kk ll hA8 hA7 hA0
          go_wp2_with fail
          refine (K26.out _ HA9.out).mono ?_
          rintro e w10 ⟨rfl, rfl⟩
          go_wp2_with fail
          refine (K27.out _ HA9.out).mono ?_
          rintro e w10 ⟨rfl, rfl⟩
          go_wp2_with fail
          go_roundg (ns - (k + 1))
          case measure => have := Hk.out; omega
          case rel => exact ⟨k + 1, p1, F1, st1, by have := Hk.out; omega, by go_num, rfl, Hs1n.out.trans Hst.out, (KD.out _ HA9.out).1, (KD.out _ HA9.out).2, HF1.out, HF9.out⟩
      · have c6b : (oK == 6) = false := by rw [beq_eq_false_iff_ne]; exact c6
        clear c6
        obtain ⟨p1, rfl⟩ : ∃ p1, p1 = p := ⟨_, rfl⟩
        obtain ⟨F1, rfl⟩ : ∃ F1, F1 = F := ⟨_, rfl⟩
        have HMx := HM
        have HXx := HX
        have HTx := Htb
        have HFx := Hf
        have HF1 := HFw
        obtain ⟨cap, hcap, hcap1, hcap2⟩ := HXx.out.hd.cell
        have HCx : Hid (Cel bo (off + k * 6) q G st.n cap oOn oK oa ob oc oS wr) := Lib.hid ⟨c0, c1, c2, c3, c4, c5, hcap⟩
        clear hcap
        obtain ⟨L, hL⟩ : ∃ L : DoL, L = ⟨p1, F1, q, G, tb, A, m, c, t⟩ := ⟨_, rfl⟩
        have hTF : tb ≠ F1 ∧ tb ≠ G := by
          have h1 := HF1.out
          have h2 := HGe.out
          have h3 := HXx.out.ne
          rcases Htl.out with h | h
          · omega
          · subst h
            refine ⟨?_, h3⟩
            obtain ⟨⟨⟨cap', hbq, _⟩, _⟩, _⟩ := HXx.out
            obtain ⟨_, cs, hbF, _⟩ := HMx.out
            exact hbq.ne_ hbF (by decide)
        have hN : DoN L := by rw [hL]; exact DoN.of HMx.out HXx.out hTF.1 hTF.2
        have hA00 : Do wr L st st := by
          rw [hL]
          refine ⟨HMx.out, HXx.out, HTx.out, ?_⟩
          show tb < wr.heap.size
          have := HFx.out.size
          have := HXx.out.hd.lt
          have := Htl.out
          omega
        have hA0 : Do wr.drew L st st := hA00.fr ((Fr.refl [] _).drew)
        clear hA00
        obtain ⟨st1, hst1⟩ : ∃ st1, doS st t oK oa ob oc oS = st1 := ⟨_, rfl⟩
        have hs1n : st1.n = st.n := by rw [← hst1]; exact doS_n ..
        have hFG : L.F = F1 ∧ L.G = G := by rw [hL]; exact ⟨rfl, rfl⟩
        have K23 : Hid (∀ W, Do W L st st → Calls Try.prog 23 #[ptr p1, .slice A m c] W fun e w' => e = .returned (.int .i64 (chT st.n t)) ∧ Fr [] W w') := by subst hL; exact Lib.hid fun W h => Check_any tb p1 F1 st.n m c A t W h.t h.m.hd
        have K24 : Hid (∀ W, Do W L st st → Calls Try.prog 24 #[ptr q, .slice A m c] W fun e w' => e = .returned (.int .i64 (chT st.n t)) ∧ Fr [] W w') := by subst hL; exact Lib.hid fun W h => rCheck_any tb q G st.n m c A t W h.t h.x.hd
        have K25 : Hid (∀ W, Do W L st st → Calls Try.prog 25 #[ptr p1, ptr q, .slice A m c, .agg #[.int .i64 oOn, .int .i64 oK, .int .i64 oa, .int .i64 ob, .int .i64 oc, .string oS]] W fun e w' => e = .returned (.bool true) ∧ Do w' L st1 st1 ∧ Fr [F1, G] W w') := by
          refine Lib.hid fun W h => (does_any p1 F1 q G tb m c A t st oOn oK oa ob oc oS W L hL hN h Hoo.out.1 Hoo.out.2).mono fun e w' ⟨he, hd, hf⟩ => ⟨he, by rw [← hst1]; exact hd, by rw [hFG.1, hFG.2] at hf; exact hf⟩
        have K17 : Hid (∀ W, Do W L st1 st1 → Calls Try.prog 17 #[ptr p1] W fun e w' => e = .returned (.int .i64 st.n) ∧ W = w') := by subst hL; rw [← hs1n]; exact Lib.hid fun W h => Frames_any p1 F1 st1 W h.m
        have K26 : Hid (∀ W, Do W L st1 st1 → Calls Try.prog 26 #[ptr p1, .int .i64 oa] W fun e w' => e = .returned (.tuple #[.string (frA st1 oa), .int .i64 (clE st1.n oa)]) ∧ W = w') := by subst hL; exact Lib.hid fun W h => Frame_any p1 F1 st1 W oa h.m
        have K27 : Hid (∀ W, Do W L st1 st1 → Calls Try.prog 27 #[ptr q, .int .i64 oa] W fun e w' => e = .returned (.tuple #[.string (frA st1 oa), .int .i64 (clE st1.n oa)]) ∧ W = w') := by subst hL; exact Lib.hid fun W h => rFrame_any q G st1 W oa h.x
        have KD : Hid (∀ W, Do W L st1 st1 → MemAt W p1 F1 st1 ∧ RMem W q G st1) := by subst hL; exact Lib.hid fun W h => ⟨h.m, h.x⟩
        have hbF : Hid (bo ∉ [F1, G] ∧ q ∉ [F1, G]) := Lib.hid (by
          have h1 := HF1.out
          have h2 := HGe.out
          have h3 := Hbo.out
          have h4 := hN.f.2.1
          have h5 := hN.g.2.1
          rw [hFG.1] at h4
          rw [hFG.2] at h5
          have e1 : L.q = q := by rw [hL]
          rw [e1] at h4 h5
          simp
          omega)
        have Hs1n := Lib.hid hs1n
        have HF0 : Hid (Fr [] w wr.drew) := Lib.hid HFx.out.drew
        have HC0 := HCx.out.fr ((Fr.refl [] wr).drew) (by simp) (by simp)
        clear hL hTF hN hst1 hs1n hFG
        generalize chT st.n t = ch at *
        generalize frA st1 oa = FA at *
        generalize clE st1.n oa = EA at *
        have tok : True := trivial
        go_wp2_with fail
        go_region_held3 (fun w' => w'.cell? ⟨bo, off + k * 6, none⟩ = some (.int .i64 oOn) ∧ w'.cell? ⟨bo, off + k * 6 + 1, none⟩ = some (.int .i64 oK) ∧ w'.cell? ⟨bo, off + k * 6 + 2, none⟩ = some (.int .i64 oa) ∧ w'.cell? ⟨bo, off + k * 6 + 3, none⟩ = some (.int .i64 ob) ∧ w'.cell? ⟨bo, off + k * 6 + 4, none⟩ = some (.int .i64 oc) ∧ w'.cell? ⟨bo, off + k * 6 + 5, none⟩ = some (.string oS) ∧ w'.cell? ⟨q, 0, none⟩ = some (.slice (some ⟨G, 0, none⟩) st.n cap))
          (first
            | exact HC0
            | exact kk
            | exact ll
            | exact mm)
          ((first
            | (go_at_call 23; have _t := tok; (with_reducible refine (K23.out _ hA0).mono ?_); rintro e w7 ⟨rfl, hf7⟩; have kk := HC0.fr hf7 (by simp) (by simp); have hA7 := hA0.fr hf7; have hB7 := hA7; clear tok)
            | (go_at_call 24; (with_reducible refine (K24.out _ hB7).mono ?_); rintro e w8 ⟨rfl, hf8⟩; have ll := kk.fr hf8 (by simp) (by simp); have hA8 := hA7.fr hf8)
            | (go_at_call 24; have _t := tok; (with_reducible refine (K24.out _ hA0).mono ?_); rintro e w7 ⟨rfl, hf7⟩; have kk := HC0.fr hf7 (by simp) (by simp); have hA7 := hA0.fr hf7; have hC7 := hA7; clear tok)
            | (go_at_call 23; (with_reducible refine (K23.out _ hC7).mono ?_); rintro e w8 ⟨rfl, hf8⟩; have ll := kk.fr hf8 (by simp) (by simp); have hA8 := hA7.fr hf8)
            | (go_at_call 25; (with_reducible refine (K25.out _ hA8).mono ?_); rintro e w9 ⟨rfl, hA9, hf9⟩; have mm := ll.fr hf9 hbF.out.1 hbF.out.2)
            | (go_at_call 17; (with_reducible refine (K17.out _ hA9).mono ?_); rintro e w10 ⟨rfl, rfl⟩)))
        all_goals
          have HA9 := Lib.hid hA9
          have HF9 : Hid (Fr [] w w9) := Lib.hid (((HF0.out.trans hf7).trans hf8).step hf9 (by have := HF1.out; have := HGe.out; simp; omega))
          obtain ⟨d0, d1, d2, d3, d4, d5, -⟩ := mm
          clear hf7 hf8 hf9 hA9 HC0 kk ll hA8 hA7 hA0
          go_wp2_with fail
          refine (K26.out _ HA9.out).mono ?_
          rintro e w10 ⟨rfl, rfl⟩
          go_wp2_with fail
          refine (K27.out _ HA9.out).mono ?_
          rintro e w10 ⟨rfl, rfl⟩
          go_wp2_with fail
          go_roundg (ns - (k + 1))
          case measure => have := Hk.out; omega
          case rel => exact ⟨k + 1, p1, F1, st1, by have := Hk.out; omega, by go_num, rfl, Hs1n.out.trans Hst.out, (KD.out _ HA9.out).1, (KD.out _ HA9.out).2, HF1.out, HF9.out⟩
    · have hki : ¬ (k : Int) < (ns : Int) := by omega
      obtain ⟨cap, hcap, hcap1, hcap2⟩ := hX.hd.cell
      have HFr : Hid (∀ W, Fr [] wr W → Calls Try.prog 13 #[ptr p] W fun e w' => ∃ A c, e = .returned (.slice A n c) ∧ Sl w' 9 1 (.slice A n c) n (encS (framesL st n)) ∧ Fr [] W w') := Lib.hid fun W hW => (frames_any p F st W (hM.to hW (by simp) (by simp))).mono fun e w' ⟨v, he, ho, hf⟩ => by
        rw [hst] at ho
        obtain ⟨A, c, rfl⟩ := own_shape ho
        exact ⟨A, c, he, Sl.of_own ho, hf⟩
      have HSl : Hid (∀ W, Fr [] wr W → Sl W 9 1 (.slice (some ⟨G, 0, none⟩) n cap) n (encS (framesL st n))) := by
        rw [← hst]
        exact Lib.hid fun W hW => (hX.to hW (by simp) (by simp)).sl cap hcap1 hcap2
      rw [hst] at hcap
      have hcap' : wr.drew.cell? ⟨q, 0, none⟩ = some (.slice (some ⟨G, 0, none⟩) n cap) := hcap
      clear hk hM hX hst hf hFw hcap
      have hcap := hcap'
      clear hcap'
      go_wp2_with fail
      go_region_held3 (fun w' => w'.cell? ⟨q, 0, none⟩ = some (.slice (some ⟨G, 0, none⟩) n cap))
        (first
          | exact hcap
          | exact kk
          | exact ll)
        ((first
          | (go_at_call 13; (with_reducible refine (HFr.out _ ((Fr.refl [] wr).drew)).mono ?_); rintro e w4 ⟨A4, c4, rfl, hs4, hf4⟩; have kk := hf4.cell_some hcap (by simp))
          | (go_at_call 15; (with_reducible refine (same_strs _ _ _ n _ hs4 (HSl.out _ (((Fr.refl [] wr).drew).trans hf4)) (by omega)).mono ?_); rintro e w5 ⟨rfl, hf5⟩; have ll := hf5.cell_some kk (by simp))))
      go_wp2_with fail
      go_ret
      exact ⟨rfl, ((Hf.out.drew).trans hf4).trans hf5⟩
theorem mdoes_walk (many : Int) (w : World) (B As : Option Addr) (nl cl ns cs : Nat) (tv : Nat → Value) (ops : Nat → OpM) (hnl : nl ≤ maxLen) (htv : TabsIn w B nl tv) (ho : OpsIn w (.slice As ns cs) ns ops) :
    Calls Try.prog 6 #[.int .i64 many, .slice B nl cl, .slice As ns cs] w fun e w' => e = .returned (.bool true) ∧ Fr [] w w' := by
  by_cases h : many < 1 ∨ 160 < many
  · exact mdoes_bad many w h B As nl cl ns cs
  · obtain ⟨n, rfl⟩ := Int.eq_ofNat_of_zero_le (by omega : 0 ≤ many)
    exact mdoes_ok n w B As nl cl ns cs tv ops (by omega) (by omega) hnl htv ho
end Go.Proofs.Ytdkihajajdhpnaa

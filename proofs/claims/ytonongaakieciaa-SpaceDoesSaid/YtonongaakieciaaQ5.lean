/- Two spaces side by side: tables, same. -/
import Derived.Test.YtonongaakieciaaQ4
import Derived.BigQuiet
import Derived.Deep.QuietTactic
namespace Go.Proofs.Ytonongaakieciaa
open Go.RowKit
set_option linter.unusedVariables false
set_option linter.unusedSimpArgs false
set_option maxRecDepth 100000
theorem tables_any (b1 b2 n c1 c2 : Nat) (A1 A2 : Option Addr) (t : List Pg) (w : World) (h1 : Tb w b1 (.slice A1 n c1) t) (h2 : Tb w b2 (.slice A2 n c2) t) (hn : n ≤ 16) : Calls Try.prog 72 #[.slice A1 n c1, .slice A2 n c2] w fun e w' => e = .returned (.bool true) ∧ Fr [] w w' := by
  have hl := h1.n_eq
  have HT : Hid (∀ i, i < n → ∃ o1 o2 f r, A1 = some ⟨b1, o1, none⟩ ∧ A2 = some ⟨b2, o2, none⟩ ∧ ∀ W, Fr [] w W → W.cell? ⟨b1, o1 + i * 2, none⟩ = some (.int .i64 f) ∧ W.cell? ⟨b1, o1 + i * 2 + 1, none⟩ = some (.int .i64 r) ∧ W.cell? ⟨b2, o2 + i * 2, none⟩ = some (.int .i64 f) ∧ W.cell? ⟨b2, o2 + i * 2 + 1, none⟩ = some (.int .i64 r)) := Lib.hid fun i hi => by
    have hpi : t[i]? = some (t[i]'(by omega)) := List.getElem?_eq_getElem (by omega)
    obtain ⟨o1, e1, -, p0, p1⟩ := h1.at_ hpi
    obtain ⟨o2, e2, -, q0, q1⟩ := h2.at_ hpi
    exact ⟨o1, o2, _, _, e1, e2, fun W hf => ⟨hf.cell_some p0 (by simp), hf.cell_some p1 (by simp), hf.cell_some q0 (by simp), hf.cell_some q1 (by simp)⟩⟩
  have HF0 := Lib.hid (Fr.refl [] w)
  clear h1 h2 hl
  go_enter Try.func72, Try.ntmps72
  go_wp2_with fail
  go_loopg [5] n (fun gg i wr => ∃ (j : Nat), j + gg = n ∧ i = .int .i64 (j : Int) ∧ Fr [] w wr)
  case atStart => exact ⟨0, by omega, rfl, HF0.out⟩
  case round =>
    obtain ⟨j, hj, rfl, hf⟩ := hrel
    have Hj := Lib.hid hj
    have Hf := Lib.hid hf
    by_cases hlt : j < n
    · have hlt' : (j : Int) < (n : Int) := by omega
      have hj0 : (0 : Int) ≤ (j : Int) := by omega
      have hwj : IntKind.i64.wrap ((j : Int) + 1) = (j : Int) + 1 := IntWalk.i64_in _ (by omega)
      obtain ⟨o1, o2, f, r, rfl, rfl, hc⟩ := HT.out j hlt
      obtain ⟨k0, k1, k2, k3⟩ := hc _ hf
      clear hf hj hc
      go_wp2_with fail
      go_quiet (fail)
      go_wp2_with fail
      go_roundg (n - (j + 1))
      case measure => have := Hj.out; omega
      case rel => exact ⟨j + 1, by have := Hj.out; omega, by go_num, Hf.out.drewN _⟩
    · have hlt' : ¬ (j : Int) < (n : Int) := by omega
      clear hf hj
      go_wp2_with fail
      go_ret
      exact ⟨rfl, Hf.out⟩
/-- A row of pages that may be written over. -/
def PgW (w : World) (g n : Nat) : Prop := ∃ cs, Blk w g 61 cs ∧ n * 2 ≤ cs.size
theorem PgW.cells {w : World} {g n i : Nat} (h : PgW w g n) (hi : i < n) : (∃ u, w.cell? ⟨g, i * 2, none⟩ = some u) ∧ (∃ u, w.cell? ⟨g, i * 2 + 1, none⟩ = some u) ∧ w.frozen? ⟨g, i * 2, none⟩ = false ∧ w.frozen? ⟨g, i * 2 + 1, none⟩ = false := by
  obtain ⟨cs, hb, hc⟩ := h
  refine ⟨⟨cs[i * 2]'(by omega), ?_⟩, ⟨cs[i * 2 + 1]'(by omega), ?_⟩, hb.frozen _, hb.frozen _⟩
  · rw [hb.cell, Array.getElem?_eq_getElem (by omega)]
  · rw [hb.cell, Array.getElem?_eq_getElem (by omega)]
theorem PgW.put {w : World} {g n : Nat} (h : PgW w g n) (i j : Nat) (u v : Value) : PgW ((w.setCell ⟨g, i, none⟩ u).setCell ⟨g, j, none⟩ v) g n := by
  obtain ⟨cs, hb, hc⟩ := h
  exact ⟨_, (hb.set_ i u).set_ j v, by simp; exact hc⟩
theorem PB.pgw {w : World} {g : Nat} {t : List Pg} (h : PB w g t) : PgW w g t.length := by
  obtain ⟨cs, hb, hc⟩ := h
  refine ⟨cs, hb, ?_⟩
  rcases Nat.eq_zero_or_pos t.length with h0 | h0
  · omega
  · have h1 := (hc (t.length - 1) _ (List.getElem?_eq_getElem (by omega))).2
    have := (Array.getElem?_eq_some_iff.1 h1).1
    omega
set_option maxHeartbeats 4000000 in
theorem same_any (s p F g y q G g' : Nat) (x : Sp) (w : World) (h : SpAt w s p F g x) (h' : RSp w y q G g' x) (hn1 : ∀ (i : Nat) (t : List Pg), x.tb[i]? = some t → 1 ≤ t.length) (hn : x.st.n ≤ 160) : Calls Try.prog 27 #[ptr s, ptr y] w fun e w' => e = .returned (.bool true) ∧ Fr [] w w' := by
  obtain ⟨⟨⟨capq, hbq, -⟩, -⟩, -⟩ := h'.mem
  have HM := Lib.hid (Memory_any s p F g x w h)
  have HFs := Lib.hid (fun W (hf : Fr [] w W) => Frames_any p F x.st W (h.to hf).mem)
  have HA := Lib.hid (fun W (hf : Fr [] w W) (i : Nat) (hi : i < x.st.n) => Frame_ok p F x.st W i (h.to hf).mem hi)
  have HB := Lib.hid (fun W (hf : Fr [] w W) (i : Nat) (hi : i < x.st.n) => rFrame_ok q G x.st W i (h'.to hf).mem hi)
  have HTa := Lib.hid (fun W (hf : Fr [] w W) (i : Int) => Table_any s p F g x i W (h.to hf) hn1)
  have HTb := Lib.hid (fun W (hf : Fr [] w W) (i : Int) => rTable_any y q G g' x i W (h'.to hf))
  have hc0 := hbq.cell 0
  obtain ⟨capy, d0, -⟩ := h'.cells
  simp at hc0
  have HK := Lib.hid (fun W (hf : Fr [] w W) => (show W.cell? ⟨y, 0, none⟩ = some (ptr q) ∧ W.cell? ⟨q, 0, none⟩ = some (.slice (some ⟨G, 0, none⟩) x.st.n capq) from ⟨hf.cell_some d0 (by simp), hf.cell_some hc0 (by simp)⟩))
  have H16 : Hid (∀ i, (tbOf x i).length ≤ 16) := Lib.hid fun i => by
    unfold tbOf
    split
    · cases hx : x.tb[i.toNat]? with
      | none => simp
      | some t => exact h.n3 _ _ hx
    · simp
  have HF0 := Lib.hid (Fr.refl [] w)
  clear h h' hbq hn1
  generalize x.st.n = N at *
  have hff : ∀ i, frS x.st i = frS x.st i := fun i => rfl
  go_enter Try.func27, Try.ntmps27
  go_wp2_with (first
    | (go_at_call 52; refine HM.out.mono ?_; rintro e w1 ⟨rfl, rfl⟩)
    | fail)
  go_quiet (first | (go_at_call 70; refine Calls.quiet_of_same ((HFs.out _ ((Fr.refl _ _).drewN _)).mono (fun _ _ h => ⟨h.1, h.2.symm⟩))))
  have HFd := Lib.hid (HF0.out.drewN nq)
  go_wp2_with fail
  go_loopg [6] N (fun gg i wr => ∃ (j : Nat), j + gg = N ∧ i = .int .i64 (j : Int) ∧ Fr [] w wr)
  case atStart => exact ⟨0, by omega, rfl, HFd.out⟩
  case round =>
    obtain ⟨j, hj, rfl, hf⟩ := hrel
    have Hj := Lib.hid hj
    have Hf := Lib.hid hf
    obtain ⟨k0, k1⟩ := HK.out _ hf
    by_cases hlt : j < N
    · have hlt' : (j : Int) < (N : Int) := by omega
      have hwj : IntKind.i64.wrap ((j : Int) + 1) = (j : Int) + 1 := IntWalk.i64_in _ (by omega)
      have HA1 := Lib.hid (HA.out _ hf j hlt)
      have HB1 := Lib.hid (HB.out _ hf j hlt)
      clear hf hj
      generalize frS x.st j = S at *
      go_wp2_with (first
        | (go_at_call 48; refine HA1.out.mono ?_; rintro e w1 ⟨rfl, rfl⟩)
        | (go_at_call 71; refine HB1.out.mono ?_; rintro e w1 ⟨rfl, rfl⟩)
        | fail)
      go_roundg (N - (j + 1))
      case measure => have := Hj.out; omega
      case rel => exact ⟨j + 1, by have := Hj.out; omega, by go_num, Hf.out⟩
    · have hlt' : ¬ (j : Int) < (N : Int) := by omega
      have Hc := Lib.hid hf
      clear hf hj Hf
      go_wp2_with fail
      go_loopg [11] 10 (fun gg i wr => ∃ (j : Nat), j + gg = 10 ∧ i = .int .i64 ((j : Int) - 1) ∧ Fr [] w wr)
      case atStart => exact ⟨0, by omega, rfl, Hc.out⟩
      case round =>
        obtain ⟨j, hj, rfl, hf⟩ := hrel
        have Hj := Lib.hid hj
        have Hf := Lib.hid hf
        clear k0 k1
        by_cases hlt : j < 10
        · have hlt' : ((j : Int) - 1) < 9 := by omega
          have hwj : IntKind.i64.wrap ((j : Int) - 1 + 1) = ((j + 1 : Nat) : Int) - 1 := by rw [IntWalk.i64_in _ (by omega)]; omega
          have HTa1 := Lib.hid (HTa.out _ hf ((j : Int) - 1))
          have HTb1 := Lib.hid (fun W hf => HTb.out W hf ((j : Int) - 1))
          have H161 := Lib.hid (H16.out ((j : Int) - 1))
          unfold TableP at HTa1
          unfold RTabP at HTb1
          clear hf hj
          generalize hI : ((j : Int) - 1) = I at *
          generalize hI2 : ((j + 1 : Nat) : Int) - 1 = I2 at *
          have HI2 := Lib.hid hI2
          clear hI hI2
          generalize tbOf x I = T at *
          cases hp : hasP x I with
          | false =>
            have HA1 : Hid (Calls Try.prog 51 #[ptr s, .int .i64 I] wr fun e w' => e = .returned (.slice none 0 0) ∧ Fr [] wr w') := Lib.hid (HTa1.out.mono fun e w' h => by
              rcases h with ⟨-, h1, h2⟩ | ⟨h1, -⟩
              · exact ⟨h1, h2⟩
              · rw [hp] at h1; cases h1)
            have HB1 : Hid (∀ W, Fr [] w W → Calls Try.prog 73 #[ptr y, .int .i64 I] W fun e w' => e = .returned (.slice none 0 0) ∧ W = w') := Lib.hid fun W hf => (HTb1.out W hf).mono fun e w' h => by
              obtain ⟨h0, ⟨-, h1⟩ | ⟨h1, -⟩⟩ := h
              · exact ⟨h1, h0⟩
              · rw [hp] at h1; cases h1
            have HC1 := Lib.hid (fun W => tables_any 0 0 0 0 0 none none [] W ⟨by simp [maxLen], none, 0, rfl, fun i p hi => by simp at hi⟩ ⟨by simp [maxLen], none, 0, rfl, fun i p hi => by simp at hi⟩ (by omega))
            clear HTa1 HTb1 hp
            go_wp2_with (first
              | (go_at_call 51; refine HA1.out.mono ?_; rintro e w1 ⟨rfl, hf1⟩; have Hf1 := Lib.hid (Hf.out.trans hf1); clear hf1)
              | (go_at_call 73; refine (HB1.out _ Hf1.out).mono ?_; rintro e w2 ⟨rfl, rfl⟩)
              | (go_at_call 72; refine (HC1.out _).mono ?_; rintro e w3 ⟨rfl, hf3⟩; have Hf3 := Lib.hid (Hf1.out.trans hf3); clear hf3)
              | fail)
            go_loopg [13] 0 (fun gg i wr => i = .int .i64 0 ∧ Fr [] w wr)
            case atStart => exact ⟨rfl, Hf3.out⟩
            case round =>
              obtain ⟨rfl, hf4⟩ := hrel
              have Hf4 := Lib.hid hf4
              clear hf4
              go_wp2_with fail
              go_roundg (10 - (j + 1))
              case measure => have := Hj.out; omega
              case rel => exact ⟨j + 1, by have := Hj.out; omega, by rw [HI2.out], Hf4.out⟩
          | true =>
            obtain ⟨L, hL⟩ : ∃ L, T.length = L := ⟨_, rfl⟩
            have HA1 : Hid (Calls Try.prog 51 #[ptr s, .int .i64 I] wr fun e w' => ∃ gn, e = .returned (.slice (some ⟨gn, 0, none⟩) L L) ∧ PB w' gn T ∧ Fr [] wr w' ∧ wr.heap.size ≤ gn) := Lib.hid (HTa1.out.mono fun e w' h => by
              rcases h with ⟨h1, -⟩ | ⟨-, gn, h1, h2, h3, h4⟩
              · rw [hp] at h1; cases h1
              · exact ⟨gn, by rw [h1, hL], h2, h3, h4⟩)
            have HB1 : Hid (∀ W, Fr [] w W → Calls Try.prog 73 #[ptr y, .int .i64 I] W fun e w' => ∃ A c, e = .returned (.slice A L c) ∧ TbT W (.slice A L c) T ∧ W = w') := Lib.hid fun W hf => (HTb1.out W hf).mono fun e w' h => by
              obtain ⟨h0, ⟨h1, -⟩ | ⟨-, A, c, h1, h2⟩⟩ := h
              · rw [hp] at h1; cases h1
              · rw [hL] at h1 h2
                exact ⟨A, c, h1, h2, h0⟩
            have HC1 : Hid (∀ W gn A c, PB W gn T → TbT W (.slice A L c) T → Calls Try.prog 72 #[.slice (some ⟨gn, 0, none⟩) L L, .slice A L c] W fun e w' => e = .returned (.bool true) ∧ Fr [] W w') := Lib.hid fun W gn A c h1 h2 => by
              have h16 := H161.out
              obtain ⟨A', c', e1, -, -, -, b1, -, -, -, t1⟩ := h1.tb (Nat.le_refl _) (show T.length ≤ maxLen by simp only [maxLen]; omega)
              obtain ⟨A'', c'', e2, -, -, -, b2, -, -, -, t2⟩ := h2
              rw [hL] at t1
              exact tables_any b1 b2 L L c _ _ T W t1 t2 (by omega)
            have HW : Hid (∀ W gn, PB W gn T → PgW W gn L) := Lib.hid fun W gn h => by rw [← hL]; exact h.pgw
            have hL16 : L ≤ 16 := by have := H161.out; omega
            clear HTa1 HTb1 hp H161 hL
            go_wp2_with (first
              | (go_at_call 51; refine HA1.out.mono ?_; rintro e w1 ⟨gn, rfl, hP, hf1, hgn⟩; have Hgn : Hid (w.heap.size ≤ gn) := Lib.hid (Nat.le_trans Hf.out.size hgn); have Hf1 := Lib.hid (Hf.out.trans hf1); have HP := Lib.hid hP; clear hf1 hgn hP)
              | (go_at_call 73; refine (HB1.out _ Hf1.out).mono ?_; rintro e w2 ⟨A2, c2, rfl, hT2, rfl⟩; have HT2 := Lib.hid hT2; clear hT2)
              | (go_at_call 72; refine (HC1.out _ _ _ _ HP.out HT2.out).mono ?_; rintro e w3 ⟨rfl, hf3⟩; have HQ := Lib.hid (HW.out _ _ (HP.out.fr hf3 (by simp))); have Hf3 := Lib.hid (Hf1.out.trans hf3); clear hf3)
              | fail)
            go_loopg [13] L (fun gg i wr => ∃ (k : Nat), k + gg = L ∧ i = .int .i64 (k : Int) ∧ Fr [] w wr ∧ PgW wr gn L)
            case atStart => exact ⟨0, by omega, rfl, Hf3.out, HQ.out⟩
            case round =>
              obtain ⟨k, hk, rfl, hf4, hq4⟩ := hrel
              have Hk := Lib.hid hk
              by_cases hkl : k < L
              · have hkl' : (k : Int) < (L : Int) := by omega
                have hk0 : (0 : Int) ≤ (k : Int) := by omega
                have hwk : IntKind.i64.wrap ((k : Int) + 1) = (k : Int) + 1 := IntWalk.i64_in _ (by omega)
                obtain ⟨⟨u0, x0⟩, ⟨u1, x1⟩, x2, x3⟩ := hq4.cells hkl
                have HN := Lib.hid (And.intro ((hf4.setCell (p := ⟨gn, k * 2, none⟩) (.inr Hgn.out) (.int .i64 99)).setCell (p := ⟨gn, k * 2 + 1, none⟩) (.inr Hgn.out) (.int .i64 7)) (hq4.put (k * 2) (k * 2 + 1) (.int .i64 99) (.int .i64 7)))
                clear hk hf4 hq4
                go_wp2_with fail
                go_roundg (L - (k + 1))
                case measure => have := Hk.out; omega
                case rel => exact ⟨k + 1, by have := Hk.out; omega, by go_num, HN.out.1, HN.out.2⟩
              · have hkl' : ¬ (k : Int) < (L : Int) := by omega
                have Hf4 := Lib.hid hf4
                clear hk hf4 hq4
                go_wp2_with fail
                go_roundg (10 - (j + 1))
                case measure => have := Hj.out; omega
                case rel => exact ⟨j + 1, by have := Hj.out; omega, by rw [HI2.out], Hf4.out⟩
        · have hlt' : ¬ ((j : Int) - 1) < 9 := by omega
          clear hf hj
          go_wp2_with fail
          go_ret
          exact ⟨rfl, Hf.out⟩
end Go.Proofs.Ytonongaakieciaa

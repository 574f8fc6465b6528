/- MemRights, walked (on from L2). -/
import Derived.Test.YtdkihajajdhpnaaL2
namespace Go.Proofs.Ytdkihajajdhpnaa
open Go.RowKit
set_option linter.unusedVariables false
set_option linter.unusedSimpArgs false
theorem Tb.news {w : World} {b : Nat} {ad : Addr} {n cap : Nat} {t : List Pg} (h : Tb w b (.slice (some ad) n cap) t) : ∀ (j : Nat) (u : Value), (cellsT t)[j]? = some u → w.cell? (ad.add j) = some u := by
  intro j u hu
  have hj : j < t.length * 2 := by have := (List.getElem?_eq_some_iff.1 hu).1; rwa [cellsT_len] at this
  obtain ⟨p, hp⟩ : ∃ p, t[0]? = some p := ⟨_, List.getElem?_eq_getElem (by omega)⟩
  obtain ⟨off, hA, _⟩ := h.at_ hp
  injection hA with hA
  subst hA
  exact h.cells j u hu
theorem wpList_append_tb {P : Program} (w : World) {ops : Array Oper} {rest : List Oper} {o : Oper} {a : Act} {Q : Exit → Act → World → Prop} (hgd : o.guard = none) (s x : Operand) (t : TypeId)
    (ho : o.op = .call { callee := .builtin .append, args := #[s, x], argTypes := #[t, t] })
    (base : Nat) (e : TypeId) (i : TypeInfo) (z : Value) (bytes : Nat) (ht : P.underlying t = some (.slice e)) (hi : P.info? e = some i) (hz : i.zero = some z)
    (hsize : i.size = 2) (hby : i.bytes = bytes) (hzs : z.cells.size = 2)
    (v : Value) (n : Nat) (xs : List Value) (hs : a.eval s = v) (hown : w.ownsRow base e 2 v n xs)
    (A : Option Addr) (m cap tb : Nat) (tt : List Pg) (hx : a.eval x = .slice A m cap) (htb : Tb w tb (.slice A m cap) tt)
    (h63 : n + m ≤ maxLen) (hbytes : (n + m) * bytes ≤ 140737488355328) (hbase : base ≤ w.heap.size) (hnil : A = none → m = 0 ∧ cap = 0)
    (h : ∀ v' w', w'.ownsRow base e 2 v' (n + m) (xs ++ cellsT tt) → w.grownBy w' v.ownBlock → wpList P ops Q rest (a.put o.dst v') w') : wpList P ops Q (o :: rest) a w := by
  have hl := htb.n_eq
  cases A with
  | none =>
    obtain ⟨rfl, rfl⟩ := hnil rfl
    have h0 : tt = [] := List.eq_nil_of_length_eq_zero hl.symm
    subst h0
    refine wpList_append_own_none hgd s x t ho base e i 2 ht hi v n xs hs hown hx ?_
    exact h v w (by simpa [cellsT] using hown) ⟨rfl, rfl, rfl, Nat.le_refl _, fun _ _ _ => rfl⟩
  | some ad =>
    exact wpList_append_own w hgd s x t ho base e i z 2 bytes ht hi hz hsize hby hzs (by omega) v n xs hs hown _ m cap (cellsT tt) hx (by rw [cellsT_len, hl]) htb.news (cellsT_one tt) h63 hbytes hbase fun v' w' a b _ => h v' w' a b
theorem CutT.start {w : World} {base m : Nat} {v : Value} {t : List Pg} (mask : Int) (h : w.ownsRow base 31 2 v m (cellsT t)) (hm : m = t.length) (hbs : base < w.heap.size) : ∃ A c g, v = .slice A m c ∧ base ≤ g ∧ g < w.heap.size ∧ (m = 0 ∨ (A = some ⟨g, 0, none⟩ ∧ CutT mask t 0 g w)) := by
  rcases h.2 with ⟨rfl, rfl⟩ | ⟨g, cap, cur, rfl, hb, hh, h1, h2, h3, h4⟩
  · exact ⟨none, 0, base, rfl, Nat.le_refl _, hbs, .inl rfl⟩
  · refine ⟨_, cap, g, rfl, hb, (show Blk w g 31 cur from hh).lt, .inr ⟨rfl, cur, hh, fun i p hp => ?_⟩⟩
    obtain ⟨k0, k1⟩ := cellsT_at t i p hp
    have hi := (List.getElem?_eq_some_iff.1 hp).1
    have hc : ∀ j, j < m * 2 → cur[j]? = (cellsT t)[j]? := by
      intro j hj
      rw [← h4, List.getElem?_take, if_pos hj, Array.getElem?_toList]
    rw [hc _ (by omega), hc _ (by omega), k0, k1, if_neg (by omega)]
    exact ⟨rfl, rfl⟩
theorem CutT.tbv {mask : Int} {t : List Pg} {A : Option Addr} {g m c : Nat} {W : World} (h : m = 0 ∨ (A = some ⟨g, 0, none⟩ ∧ CutT mask t m g W)) (hn : m = t.length) (hl : m ≤ maxLen) : Tb W g (.slice A m c) (fewT mask t) := by
  rcases h with rfl | ⟨rfl, h⟩
  · have : t = [] := List.eq_nil_of_length_eq_zero hn.symm
    subst this
    exact ⟨by simp [fewT, maxLen], A, c, rfl, fun i p hi => by simp [fewT] at hi⟩
  · exact h.tb hn hl
theorem box4 {W : World} {b : Nat} {T : TypeId} {v0 v1 v2 v3 : Value} (h : Blk W b T #[v0, v1, v2, v3]) : W.cell? ⟨b, 0, none⟩ = some v0 ∧ W.cell? ⟨b, 1, none⟩ = some v1 ∧ W.cell? ⟨b, 2, none⟩ = some v2 ∧ W.cell? ⟨b, 3, none⟩ = some v3 := by
  rw [h.cell, h.cell, h.cell, h.cell]
  exact ⟨rfl, rfl, rfl, rfl⟩
theorem wrS_n (st : St) (t : List Pg) (a : Int) (s : ByteArray) : (wrS st t a s).n = st.n := by
  unfold wrS
  split <;> rfl
theorem CutT.frozen {mask : Int} {t : List Pg} {k g : Nat} {W : World} (h : CutT mask t k g W) (j : Nat) : W.frozen? ⟨g, j, none⟩ = false := by
  obtain ⟨cs, hb, _⟩ := h
  exact hb.frozen j
theorem CutT.cell1 {mask : Int} {t : List Pg} {k g : Nat} {W : World} (h : CutT mask t k g W) {q : Pg} (hq : t[k]? = some q) : W.cell? ⟨g, k * 2 + 1, none⟩ = some (.int .i64 q.r) := by
  obtain ⟨cs, hb, hc⟩ := h
  rw [hb.cell, (hc k q hq).2, if_neg (by omega)]
set_option maxRecDepth 100000 in
set_option maxHeartbeats 400000 in
theorem rights_bad (many mask at_ ln : Int) (S : ByteArray) (w : World) (h : many < 1 ∨ 160 < many) (A : Option Addr) (m cap : Nat) :
    Calls Try.prog 9 #[.int .i64 many, .slice A m cap, .agg #[.int .i64 mask, .int .i64 at_, .int .i64 ln, .string S]] w fun e w' => e = .returned (.bool true) ∧ Fr [] w w' := by
  have Hn := Lib.hid fun W => New_bad many W h
  have Hx := Lib.hid fun W => fixed_any W
  clear h
  go_enter Try.func9, Try.ntmps9
  go_wp2_with (first
    | (go_at_call 10; go_must ((with_reducible refine (Hn.out _).mono ?_); rintro e w1 ⟨rfl, rfl⟩))
    | (go_at_call 11; go_must ((with_reducible refine (Hx.out _).mono ?_); rintro e w1 ⟨rfl, hf1⟩))
    | fail)
  go_ret
  exact ⟨rfl, ((Fr.refl [] w).alloc _).trans hf1⟩
set_option maxRecDepth 100000 in
set_option maxHeartbeats 4000000 in
theorem rights_ok (n : Nat) (mask at_ ln : Int) (S : ByteArray) (tb m cap : Nat) (A : Option Addr) (t : List Pg) (w : World) (h1 : 1 ≤ n) (h2 : n ≤ 160) (ht : Tb w tb (.slice A m cap) t) (htb : tb < w.heap.size ∨ tb = 0)
    (hat : at_ ≤ 9223372036854775807) (hm16 : m * 16 ≤ 140737488355328) (hnil : A = none → m = 0 ∧ cap = 0) :
    Calls Try.prog 9 #[.int .i64 n, .slice A m cap, .agg #[.int .i64 mask, .int .i64 at_, .int .i64 ln, .string S]] w fun e w' => e = .returned (.bool true) ∧ Fr [] w w' := by
  obtain ⟨i0, hi0, hz0, hz1, hz2⟩ := info3 Try.info31
  have Hn := Lib.hid fun W => New_any n W h1 h2
  have Hx := Lib.hid fun W => fixed_any W
  have Ht := Lib.hid ht
  have hmt := Lib.hid ht.n_eq
  have hml := Lib.hid (show m ≤ maxLen by have := ht.len; rw [hmt.out]; exact this)
  clear ht
  have Hnil := Lib.hid hnil
  clear hnil
  go_enter Try.func9, Try.ntmps9
  go_wp2_with (first
    | (go_at_call 10; go_must ((with_reducible refine (Hn.out _).mono ?_); rintro e w1 ⟨p, F, rfl, hm1, hf1, hp1, hF1⟩))
    | (go_at_call 11; go_must (
        (with_reducible refine (Hx.out _).mono ?_)
        rintro e w2 ⟨rfl, hf2⟩
        have hbox := (Blk.new w 71 #[.int .i64 mask, .int .i64 at_, .int .i64 ln, .string S]).fr hf1 (by simp)
        have hboxN : Hid (w.heap.size < w1.heap.size) := Lib.hid hbox.lt
        have HM2 := Lib.hid (hm1.to hf2 (by simp) (by simp))
        have HB2 := Lib.hid (hbox.fr hf2 (by simp))
        have HF2 := Lib.hid ((((Fr.refl [] w).alloc (.cells #[.int .i64 mask, .int .i64 at_, .int .i64 ln, .string S] 71)).trans hf1).trans hf2)
        have hpS : Hid (w.heap.size < p) := Lib.hid (by simp at hp1; omega)
        have hFS : Hid (w.heap.size < F) := Lib.hid (by simp at hF1; omega)
        have hs2 : Hid (p < w2.heap.size ∧ F < w2.heap.size ∧ w.heap.size < w2.heap.size) := Lib.hid ⟨HM2.out.hd.lt, HM2.out.ltF, HB2.out.lt⟩
        have Hown := Lib.hid (World.ownsRow_made (base := w2.heap.size) (e := 31) (size := 2) w2 #[] 0 (Nat.le_refl _) (by simp [maxLen]) (by simp))
        have Ht2 := Lib.hid ((Ht.out.fr HF2.out (by simp)).fr ((Fr.refl [] w2).alloc (.cells #[] 31)) (by simp))
        clear hm1 hf1 hf2 hbox hp1 hF1))
    | (at_builtin; go_must (refine wpList_append_tb _ rfl (.tmp 38) (.tmp 39) 22 rfl w2.heap.size 31 i0 (.agg #[.int .i64 0, .int .i64 0]) 16 Try.underlying22 hi0 hz0 hz1 hz2 rfl _ 0 _ rfl Hown.out A m cap tb t rfl Ht2.out (by have := hml.out; omega) (by omega) (by simp) Hnil.out ?_; intro x3 w3 hox3 hgx3; have hf3 := ((Fr.refl [] w2).alloc (.cells #[] 31)).own Hown.out hgx3; rw [Nat.zero_add, List.nil_append] at hox3; obtain ⟨A', c', g, rfl, hg, hg3, hcut⟩ := CutT.start mask hox3 hmt.out (by have := (Fr.of_own hgx3).size; simp at this; omega)))
    | fail)
  have Hf3 := Lib.hid hf3
  have Hg := Lib.hid hg
  have Hg3 := Lib.hid hg3
  have Hcut := Lib.hid hcut
  clear hf3 hg hg3 hcut hox3 hgx3
  go_loopg [10] m (fun gg i wr => ∃ k : Nat, k + gg = m ∧ i = .int .i64 k ∧ (m = 0 ∨ (A' = some ⟨g, 0, none⟩ ∧ CutT mask t k g wr)) ∧ Fr [g] w3 wr)
  case atStart => exact ⟨0, by omega, rfl, Hcut.out, Fr.refl _ _⟩
  case round =>
    obtain ⟨k, hk, rfl, hct, hf⟩ := hrel
    have Hk := Lib.hid hk
    have Hf := Lib.hid hf
    have Hct := Lib.hid hct
    have HF3 := Lib.hid (HF2.out.trans Hf3.out)
    have HFr := Lib.hid ((Hf3.out.mono (S' := [g]) (by simp)).trans hf)
    have hgN : Hid (g ≠ p ∧ g ≠ F ∧ g ≠ w.heap.size ∧ g ≠ tb) := Lib.hid (by have := Hg.out; have := hs2.out; omega)
    have HB := Lib.hid (HB2.out.fr HFr.out (by have := hgN.out; simp; omega))
    have HT := Lib.hid ((Ht.out.fr HF2.out (by simp)).fr HFr.out (by have := hgN.out; simp; omega))
    by_cases hlt : k < m
    · have hki : (k : Int) < (m : Int) := by omega
      obtain ⟨q, hq⟩ : ∃ q, t[k]? = some q := ⟨_, List.getElem?_eq_getElem (by have := hmt.out; omega)⟩
      obtain ⟨off, rfl, hb, c0, c1⟩ := HT.out.at_ hq
      obtain ⟨rfl, hcut⟩ : A' = some ⟨g, 0, none⟩ ∧ CutT mask t k g wr := by
        rcases hct with h | h
        · omega
        · exact h
      have hst := hcut.step hq
      have hfz0 := hcut.frozen (k * 2 + 1)
      have hce := hcut.cell1 hq
      have q0 := HB.out.cell 0
      simp at q0
      have Hst := Lib.hid hst
      clear hk hf hct hcut hst
      have hfz : wr.drew.frozen? ⟨g, k * 2 + 1, none⟩ = false := hfz0
      have hw7 : 0 ≤ fw mask q.r ∧ fw mask q.r ≤ 7 := fw_bd mask q.r
      go_wp2_with fail
      go_still_tail 13, (by kernel_rfl)
      change wpList _ _ _ _ _ wr.drew
      go_wp2_with fail
      go_roundg (m - (k + 1))
      case measure => have := Hk.out; omega
      case rel =>
        exact ⟨k + 1, by have := Hk.out; omega, by go_num, .inr ⟨trivial, Hst.out.fr ((Fr.refl [] _).drew) (by simp)⟩, (Hf.out.trans ((Fr.refl [g] wr).setCell (.inl (by simp)) _)).trans ((Fr.refl [g] _).drew)⟩
    · have hki : ¬ (k : Int) < (m : Int) := by omega
      have hkm : k = m := by omega
      rw [hkm] at hct
      have HA := Lib.hid (CutT.tbv (c := c') hct hmt.out hml.out)
      have HM := Lib.hid (HM2.out.to HFr.out (by have := hgN.out; simp; omega) (by have := hgN.out; simp; omega))
      have HSz := Lib.hid (show p < wr.heap.size ∧ F < wr.heap.size ∧ g < wr.heap.size ∧ tb < wr.heap.size ∧ w.heap.size < wr.heap.size from by
        have := HFr.out.size; have := hs2.out; have := HF2.out.size; have := Hg3.out; have := hf.size; omega)
      have HFin : Hid (∀ W S, Fr S wr W → (∀ k, k ∈ S → w.heap.size ≤ k) → Fr [] w W) := Lib.hid fun W S hW hS => ((HF2.out.step HFr.out (by have := Hg.out; have := HF2.out.size; simp; omega)).step hW (fun k hk => .inr (hS k hk)))
      clear hk hf hct hkm
      obtain ⟨q0, q1, q2, q3⟩ := box4 HB.out
      have Hc1 : Hid (∀ W, Fr [] wr W → Calls Try.prog 23 #[ptr p, .slice A m cap] W fun e w' => e = .returned (.int .i64 (chT n t)) ∧ Fr [] W w') := Lib.hid fun W hW => Check_any tb p F n m cap A t W (HT.out.fr hW (by simp)) (HM.out.to hW (by simp) (by simp)).hd
      have Hc2 : Hid (∀ W, Fr [] wr W → Calls Try.prog 23 #[ptr p, .slice A' m c'] W fun e w' => e = .returned (.int .i64 (chT n (fewT mask t))) ∧ Fr [] W w') := Lib.hid fun W hW => Check_any g p F n m c' A' _ W (HA.out.fr hW (by simp)) (HM.out.to hW (by simp) (by simp)).hd
      cases hT : okT n t with
      | false =>
        have hc : chT n t = 84 := by unfold chT; rw [hT]; rfl
        rw [hc] at Hc1
        clear hT hc
        go_wp2_with fail
        refine (Hc1.out _ (Fr.refl _ _)).mono ?_
        rintro e w4 ⟨rfl, hf4⟩
        go_wp2_with fail
        refine (Hc1.out _ hf4).mono ?_
        rintro e w5 ⟨rfl, hf5⟩
        go_wp2_with fail
        go_ret
        exact ⟨rfl, HFin.out _ [] (hf4.trans hf5) (by simp)⟩
      | true =>
        have hc : chT n t = 0 := by unfold chT; rw [hT]; rfl
        have hcf : chT n (fewT mask t) = 0 := by unfold chT; rw [fewT_ok mask hT]; rfl
        rw [hc] at Hc1
        rw [hcf] at Hc2
        have HTT := Lib.hid hT
        clear hT hc hcf
        go_wp2_with fail
        refine (Hc1.out _ (Fr.refl _ _)).mono ?_
        rintro e w4 ⟨rfl, hf4⟩
        go_wp2_with fail
        refine (Hc2.out _ hf4).mono ?_
        rintro e w5 ⟨rfl, hf5⟩
        have Hf5 := Lib.hid (hf4.trans hf5)
        clear hf4 hf5
        obtain ⟨q0, q1, q2, q3⟩ := box4 (HB.out.fr Hf5.out (by simp))
        go_wp2_with fail
        have HM5 := HM.out.to Hf5.out (by simp) (by simp)
        have hs5 := Hf5.out.size
        have hsz := HSz.out
        refine (Write_any tb p F m cap _ A t 0 S w5 (HT.out.fr Hf5.out (by simp)) HM5 (by omega) (by omega)).mono ?_
        rintro e w6 ⟨rfl, hm6, hf6⟩
        have Hf6 := Lib.hid ((Hf5.out.mono (S' := [F]) (by simp)).trans hf6)
        obtain ⟨st1, hst1⟩ : ∃ st1, wrS ⟨n, fun _ => 0⟩ t 0 S = st1 := ⟨_, rfl⟩
        have hn1 : st1.n = n := by rw [← hst1, wrS_n]
        rw [hst1] at hm6
        have HM6 := Lib.hid hm6
        have HT1 : Hid (okT st1.n t = true) := Lib.hid (by rw [hn1]; exact HTT.out)
        have hgF := hgN.out
        have HTb6 := Lib.hid (HT.out.fr Hf6.out (by have := hFS.out; simp; omega))
        have HAb6 := Lib.hid (HA.out.fr Hf6.out (by simp; omega))
        have HB6 := Lib.hid (HB.out.fr Hf6.out (by have := hFS.out; simp; omega))
        have Hn1 := Lib.hid hn1
        have hs6 := Hf6.out.size
        obtain ⟨q0, q1, q2, q3⟩ := box4 HB6.out
        clear hm6 hf6 HM5 hst1 hn1 hgF
        generalize wrE ⟨n, fun _ => 0⟩ t 0 S = e0 at *
        obtain ⟨⟨l1, e1⟩, hR1⟩ : ∃ R, rdR st1 (fewT mask t) at_ ln 1 = R := ⟨_, rfl⟩
        obtain ⟨⟨l2, e2⟩, hR2⟩ : ∃ R, rdR st1 t at_ ln 1 = R := ⟨_, rfl⟩
        have hfew := few_rd (mask := mask) HT1.out (a := at_) (n := ln) (r := 1)
        rw [hR1, hR2] at hfew
        have Hr1 : Hid (Calls Try.prog 18 #[ptr p, .slice A' m c', .int .i64 at_, .int .i64 ln, .int .i64 1] w6 fun e w' => e = .returned (.tuple #[.string ⟨l1.toArray⟩, .int .i64 e1]) ∧ Fr [] w6 w') := by
          have h := Read_any g p F m c' st1 A' (fewT mask t) at_ ln 1 w6 HAb6.out HM6.out hat (by omega)
          unfold ReadP at h
          rw [hR1] at h
          exact Lib.hid h
        have Hr2 : Hid (∀ W, Fr [] w6 W → Calls Try.prog 18 #[ptr p, .slice A m cap, .int .i64 at_, .int .i64 ln, .int .i64 1] W fun e w' => e = .returned (.tuple #[.string ⟨l2.toArray⟩, .int .i64 e2]) ∧ Fr [] W w') := by
          refine Lib.hid fun W hW => ?_
          have h := Read_any tb p F m cap st1 A t at_ ln 1 W (HTb6.out.fr hW (by simp)) (HM6.out.to hW (by simp) (by simp)) hat (by have := hW.size; omega)
          unfold ReadP at h
          rw [hR2] at h
          exact Lib.hid h |>.out
        simp only at hfew
        have Hfew := Lib.hid hfew
        clear hR1 hR2 hfew
        go_wp2_with fail
        refine (Hr1.out).mono ?_
        rintro e w7 ⟨rfl, hf7⟩
        obtain ⟨q0, q1, q2, q3⟩ := box4 (HB6.out.fr hf7 (by simp))
        go_wp2_with fail
        refine (Hr2.out _ hf7).mono ?_
        rintro e w8 ⟨rfl, hf8⟩
        have Hf8 := Lib.hid (hf7.trans hf8)
        clear hf7 hf8
        by_cases h1 : e1 = 0
        · obtain h2 := Hfew.out h1
          injection h2 with h3 h4
          subst h3; subst h4; subst h1
          generalize (⟨l2.toArray⟩ : ByteArray) = LL at *
          go_wp2_with fail
          refine (Clone_any p F st1 w8 (HM6.out.to Hf8.out (by simp) (by simp))).mono ?_
          rintro e w9 ⟨p', F', rfl, hm9, hf9, hp9, hF9⟩
          have Hf9 := Lib.hid (Hf8.out.trans hf9)
          have hs8 := Hf8.out.size
          have hF9' : Hid (w6.heap.size ≤ p' ∧ w6.heap.size ≤ F') := Lib.hid (by omega)
          have hltF := HM6.out.ltF
          have hltp := HM6.out.hd.lt
          have HM9 := Lib.hid (HM6.out.to Hf9.out (by simp) (by simp))
          have HC9 := Lib.hid hm9
          have HB9 := Lib.hid (HB6.out.fr Hf9.out (by simp))
          obtain ⟨q0, q1, q2, q3⟩ := box4 HB9.out
          clear hm9 hf9 hp9 hF9
          go_wp2_with fail
          refine (Write_any g p F m c' st1 A' (fewT mask t) at_ S w9 (HAb6.out.fr Hf9.out (by simp)) HM9.out hat (by have := Hf9.out.size; omega)).mono ?_
          rintro e w10 ⟨rfl, hm10, hf10⟩
          have HB10 := Lib.hid (HB9.out.fr hf10 (by have := hFS.out; simp; omega))
          obtain ⟨q0, q1, q2, q3⟩ := box4 HB10.out
          have HC10 := Lib.hid (HC9.out.to hf10 (by have := hF9'.out; simp; omega) (by have := hF9'.out; simp; omega))
          have HM10 := Lib.hid hm10
          have HT10 := Lib.hid ((HTb6.out.fr Hf9.out (by simp)).fr hf10 (by have := hFS.out; simp; omega))
          have Hf10 := Lib.hid hf10
          clear hm10 hf10
          obtain ⟨e3, he3⟩ : ∃ e3, wrE st1 (fewT mask t) at_ S = e3 := ⟨_, rfl⟩
          obtain ⟨e4, he4⟩ : ∃ e4, wrE st1 t at_ S = e4 := ⟨_, rfl⟩
          have hfw := few_wr (mask := mask) HT1.out (a := at_) (s := S)
          rw [he3]
          go_wp2_with fail
          refine (Write_any tb p' F' m cap st1 A t at_ S w10 HT10.out HC10.out hat (by have := Hf9.out.size; have := Hf10.out.size; omega)).mono ?_
          rintro e w11 ⟨rfl, hm11, hf11⟩
          rw [he4]
          rw [he3, he4] at hfw
          have HC11 := Lib.hid hm11
          have HM11 := Lib.hid (HM10.out.to hf11 (by have := hF9'.out; simp; omega) (by have := hF9'.out; simp; omega))
          have HF11 : Hid (Fr [] w w11) := Lib.hid (HFin.out w11 [F, F'] ((((Hf6.out.mono (S' := [F, F']) (by simp)).trans (Hf9.out.mono (by simp))).trans (Hf10.out.mono (by simp))).trans (hf11.mono (by simp))) (by have := hFS.out; have := hF9'.out; simp; omega))
          have Hfw := Lib.hid hfw
          clear hm11 hf11 hfw he3 he4
          by_cases h3 : e3 = 0
          · subst h3
            obtain ⟨rfl, hst⟩ := Hfw.out rfl
            rw [hst] at HC11
            obtain ⟨st2, hst2⟩ : ∃ st2, wrS st1 (fewT mask t) at_ S = st2 := ⟨_, rfl⟩
            have hn2 : st2.n = n := by rw [← hst2, wrS_n]; exact Hn1.out
            rw [hst2] at HC11 HM11
            have Hn2 := Lib.hid hn2
            clear hn2 hst2 hst
            go_wp2_with fail
            go_loopg [17] n (fun gg i w12 => ∃ k : Nat, k + gg = n ∧ i = .int .i64 k ∧ w12 = w11)
            case atStart => exact ⟨0, by omega, rfl, rfl⟩
            case round =>
              obtain ⟨k2, hk2, rfl, rfl⟩ := hrel
              have Hk2 := Lib.hid hk2
              by_cases hl2 : k2 < n
              · have hki2 : (k2 : Int) < (n : Int) := by omega
                have F1 := Lib.hid (Frame_ok p F st2 _ k2 HM11.out (by have := Hn2.out; omega))
                have F2 := Lib.hid (Frame_ok p' F' st2 _ k2 HC11.out (by have := Hn2.out; omega))
                generalize frS st2 k2 = FS at *
                clear hk2
                go_wp2_with fail
                refine F1.out.mono ?_
                rintro e w13 ⟨rfl, rfl⟩
                go_wp2_with fail
                refine F2.out.mono ?_
                rintro e w13 ⟨rfl, rfl⟩
                go_wp2_with fail
                go_roundg (n - (k2 + 1))
                case measure => have := Hk2.out; omega
                case rel => exact ⟨k2 + 1, by have := Hk2.out; omega, by go_num, rfl⟩
              · have hki2 : ¬ (k2 : Int) < (n : Int) := by omega
                clear hk2
                go_wp2_with fail
                go_ret
                exact ⟨rfl, HF11.out⟩
          · have h3b : (e3 != 0) = true := by rw [bne_iff_ne]; exact h3
            go_wp2_with fail
            go_ret
            exact ⟨rfl, HF11.out⟩
        · by_cases h8 : e2 = 81
          · subst h8
            go_wp2_with fail
            refine (Clone_any p F st1 w8 (HM6.out.to Hf8.out (by simp) (by simp))).mono ?_
            rintro e w9 ⟨p', F', rfl, hm9, hf9, hp9, hF9⟩
            have Hf9 := Lib.hid (Hf8.out.trans hf9)
            have hs8 := Hf8.out.size
            have hF9' : Hid (w6.heap.size ≤ p' ∧ w6.heap.size ≤ F') := Lib.hid (by omega)
            have hltF := HM6.out.ltF
            have hltp := HM6.out.hd.lt
            have HM9 := Lib.hid (HM6.out.to Hf9.out (by simp) (by simp))
            have HC9 := Lib.hid hm9
            have HB9 := Lib.hid (HB6.out.fr Hf9.out (by simp))
            obtain ⟨q0, q1, q2, q3⟩ := box4 HB9.out
            clear hm9 hf9 hp9 hF9
            go_wp2_with fail
            refine (Write_any g p F m c' st1 A' (fewT mask t) at_ S w9 (HAb6.out.fr Hf9.out (by simp)) HM9.out hat (by have := Hf9.out.size; omega)).mono ?_
            rintro e w10 ⟨rfl, hm10, hf10⟩
            have HB10 := Lib.hid (HB9.out.fr hf10 (by have := hFS.out; simp; omega))
            obtain ⟨q0, q1, q2, q3⟩ := box4 HB10.out
            have HC10 := Lib.hid (HC9.out.to hf10 (by have := hF9'.out; simp; omega) (by have := hF9'.out; simp; omega))
            have HM10 := Lib.hid hm10
            have HT10 := Lib.hid ((HTb6.out.fr Hf9.out (by simp)).fr hf10 (by have := hFS.out; simp; omega))
            have Hf10 := Lib.hid hf10
            clear hm10 hf10
            obtain ⟨e3, he3⟩ : ∃ e3, wrE st1 (fewT mask t) at_ S = e3 := ⟨_, rfl⟩
            obtain ⟨e4, he4⟩ : ∃ e4, wrE st1 t at_ S = e4 := ⟨_, rfl⟩
            have hfw := few_wr (mask := mask) HT1.out (a := at_) (s := S)
            rw [he3]
            go_wp2_with fail
            refine (Write_any tb p' F' m cap st1 A t at_ S w10 HT10.out HC10.out hat (by have := Hf9.out.size; have := Hf10.out.size; omega)).mono ?_
            rintro e w11 ⟨rfl, hm11, hf11⟩
            rw [he4]
            rw [he3, he4] at hfw
            have HC11 := Lib.hid hm11
            have HM11 := Lib.hid (HM10.out.to hf11 (by have := hF9'.out; simp; omega) (by have := hF9'.out; simp; omega))
            have HF11 : Hid (Fr [] w w11) := Lib.hid (HFin.out w11 [F, F'] ((((Hf6.out.mono (S' := [F, F']) (by simp)).trans (Hf9.out.mono (by simp))).trans (Hf10.out.mono (by simp))).trans (hf11.mono (by simp))) (by have := hFS.out; have := hF9'.out; simp; omega))
            have Hfw := Lib.hid hfw
            clear hm11 hf11 hfw he3 he4
            by_cases h3 : e3 = 0
            · subst h3
              obtain ⟨rfl, hst⟩ := Hfw.out rfl
              rw [hst] at HC11
              obtain ⟨st2, hst2⟩ : ∃ st2, wrS st1 (fewT mask t) at_ S = st2 := ⟨_, rfl⟩
              have hn2 : st2.n = n := by rw [← hst2, wrS_n]; exact Hn1.out
              rw [hst2] at HC11 HM11
              have Hn2 := Lib.hid hn2
              clear hn2 hst2 hst
              go_wp2_with fail
              go_loopg [17] n (fun gg i w12 => ∃ k : Nat, k + gg = n ∧ i = .int .i64 k ∧ w12 = w11)
              case atStart => exact ⟨0, by omega, rfl, rfl⟩
              case round =>
                obtain ⟨k2, hk2, rfl, rfl⟩ := hrel
                have Hk2 := Lib.hid hk2
                by_cases hl2 : k2 < n
                · have hki2 : (k2 : Int) < (n : Int) := by omega
                  have F1 := Lib.hid (Frame_ok p F st2 _ k2 HM11.out (by have := Hn2.out; omega))
                  have F2 := Lib.hid (Frame_ok p' F' st2 _ k2 HC11.out (by have := Hn2.out; omega))
                  generalize frS st2 k2 = FS at *
                  clear hk2
                  go_wp2_with fail
                  refine F1.out.mono ?_
                  rintro e w13 ⟨rfl, rfl⟩
                  go_wp2_with fail
                  refine F2.out.mono ?_
                  rintro e w13 ⟨rfl, rfl⟩
                  go_wp2_with fail
                  go_roundg (n - (k2 + 1))
                  case measure => have := Hk2.out; omega
                  case rel => exact ⟨k2 + 1, by have := Hk2.out; omega, by go_num, rfl⟩
                · have hki2 : ¬ (k2 : Int) < (n : Int) := by omega
                  clear hk2
                  go_wp2_with fail
                  go_ret
                  exact ⟨rfl, HF11.out⟩
            · have h3b : (e3 != 0) = true := by rw [bne_iff_ne]; exact h3
              go_wp2_with fail
              go_ret
              exact ⟨rfl, HF11.out⟩
          · have h8b : (e2 == 81) = false := by rw [beq_eq_false_iff_ne]; exact h8
            go_wp2_with fail
            refine (Clone_any p F st1 w8 (HM6.out.to Hf8.out (by simp) (by simp))).mono ?_
            rintro e w9 ⟨p', F', rfl, hm9, hf9, hp9, hF9⟩
            have Hf9 := Lib.hid (Hf8.out.trans hf9)
            have hs8 := Hf8.out.size
            have hF9' : Hid (w6.heap.size ≤ p' ∧ w6.heap.size ≤ F') := Lib.hid (by omega)
            have hltF := HM6.out.ltF
            have hltp := HM6.out.hd.lt
            have HM9 := Lib.hid (HM6.out.to Hf9.out (by simp) (by simp))
            have HC9 := Lib.hid hm9
            have HB9 := Lib.hid (HB6.out.fr Hf9.out (by simp))
            obtain ⟨q0, q1, q2, q3⟩ := box4 HB9.out
            clear hm9 hf9 hp9 hF9
            go_wp2_with fail
            refine (Write_any g p F m c' st1 A' (fewT mask t) at_ S w9 (HAb6.out.fr Hf9.out (by simp)) HM9.out hat (by have := Hf9.out.size; omega)).mono ?_
            rintro e w10 ⟨rfl, hm10, hf10⟩
            have HB10 := Lib.hid (HB9.out.fr hf10 (by have := hFS.out; simp; omega))
            obtain ⟨q0, q1, q2, q3⟩ := box4 HB10.out
            have HC10 := Lib.hid (HC9.out.to hf10 (by have := hF9'.out; simp; omega) (by have := hF9'.out; simp; omega))
            have HM10 := Lib.hid hm10
            have HT10 := Lib.hid ((HTb6.out.fr Hf9.out (by simp)).fr hf10 (by have := hFS.out; simp; omega))
            have Hf10 := Lib.hid hf10
            clear hm10 hf10
            obtain ⟨e3, he3⟩ : ∃ e3, wrE st1 (fewT mask t) at_ S = e3 := ⟨_, rfl⟩
            obtain ⟨e4, he4⟩ : ∃ e4, wrE st1 t at_ S = e4 := ⟨_, rfl⟩
            have hfw := few_wr (mask := mask) HT1.out (a := at_) (s := S)
            rw [he3]
            go_wp2_with fail
            refine (Write_any tb p' F' m cap st1 A t at_ S w10 HT10.out HC10.out hat (by have := Hf9.out.size; have := Hf10.out.size; omega)).mono ?_
            rintro e w11 ⟨rfl, hm11, hf11⟩
            rw [he4]
            rw [he3, he4] at hfw
            have HC11 := Lib.hid hm11
            have HM11 := Lib.hid (HM10.out.to hf11 (by have := hF9'.out; simp; omega) (by have := hF9'.out; simp; omega))
            have HF11 : Hid (Fr [] w w11) := Lib.hid (HFin.out w11 [F, F'] ((((Hf6.out.mono (S' := [F, F']) (by simp)).trans (Hf9.out.mono (by simp))).trans (Hf10.out.mono (by simp))).trans (hf11.mono (by simp))) (by have := hFS.out; have := hF9'.out; simp; omega))
            have Hfw := Lib.hid hfw
            clear hm11 hf11 hfw he3 he4
            by_cases h3 : e3 = 0
            · subst h3
              obtain ⟨rfl, hst⟩ := Hfw.out rfl
              rw [hst] at HC11
              obtain ⟨st2, hst2⟩ : ∃ st2, wrS st1 (fewT mask t) at_ S = st2 := ⟨_, rfl⟩
              have hn2 : st2.n = n := by rw [← hst2, wrS_n]; exact Hn1.out
              rw [hst2] at HC11 HM11
              have Hn2 := Lib.hid hn2
              clear hn2 hst2 hst
              go_wp2_with fail
              go_loopg [17] n (fun gg i w12 => ∃ k : Nat, k + gg = n ∧ i = .int .i64 k ∧ w12 = w11)
              case atStart => exact ⟨0, by omega, rfl, rfl⟩
              case round =>
                obtain ⟨k2, hk2, rfl, rfl⟩ := hrel
                have Hk2 := Lib.hid hk2
                by_cases hl2 : k2 < n
                · have hki2 : (k2 : Int) < (n : Int) := by omega
                  have F1 := Lib.hid (Frame_ok p F st2 _ k2 HM11.out (by have := Hn2.out; omega))
                  have F2 := Lib.hid (Frame_ok p' F' st2 _ k2 HC11.out (by have := Hn2.out; omega))
                  generalize frS st2 k2 = FS at *
                  clear hk2
                  go_wp2_with fail
                  refine F1.out.mono ?_
                  rintro e w13 ⟨rfl, rfl⟩
                  go_wp2_with fail
                  refine F2.out.mono ?_
                  rintro e w13 ⟨rfl, rfl⟩
                  go_wp2_with fail
                  go_roundg (n - (k2 + 1))
                  case measure => have := Hk2.out; omega
                  case rel => exact ⟨k2 + 1, by have := Hk2.out; omega, by go_num, rfl⟩
                · have hki2 : ¬ (k2 : Int) < (n : Int) := by omega
                  clear hk2
                  go_wp2_with fail
                  go_ret
                  exact ⟨rfl, HF11.out⟩
            · have h3b : (e3 != 0) = true := by rw [bne_iff_ne]; exact h3
              go_wp2_with fail
              go_ret
              exact ⟨rfl, HF11.out⟩
theorem rights_walk (many mask at_ ln : Int) (S : ByteArray) (tb m cap : Nat) (A : Option Addr) (t : List Pg) (w : World) (ht : Tb w tb (.slice A m cap) t) (htb : tb < w.heap.size ∨ tb = 0)
    (hat : at_ ≤ 9223372036854775807) (hm16 : m * 16 ≤ 140737488355328) (hnil : A = none → m = 0 ∧ cap = 0) :
    Calls Try.prog 9 #[.int .i64 many, .slice A m cap, .agg #[.int .i64 mask, .int .i64 at_, .int .i64 ln, .string S]] w fun e w' => e = .returned (.bool true) ∧ Fr [] w w' := by
  by_cases h : many < 1 ∨ 160 < many
  · exact rights_bad many mask at_ ln S w h A m cap
  · obtain ⟨n, rfl⟩ := Int.eq_ofNat_of_zero_le (by omega : 0 ≤ many)
    exact rights_ok n mask at_ ln S tb m cap A t w (by omega) (by omega) ht htb hat hm16 hnil
end Go.Proofs.Ytdkihajajdhpnaa

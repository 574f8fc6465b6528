/- The reference's space: New. -/
import Derived.Test.YtonongaakieciaaQ3
import Derived.Test.YtonongaakieciaaS8
import Derived.Test.YtonongaakieciaaS13
namespace Go.Proofs.Ytonongaakieciaa
open Go.RowKit
set_option linter.unusedVariables false
set_option linter.unusedSimpArgs false
set_option maxRecDepth 100000
theorem rowN_len (t : List Pg) (j : Nat) : (rowN t j).length = rN t j := by simp [rowN]
theorem rowN_take (t : List Pg) {j k : Nat} (hk : k < rN t j) : (rowN t j).take (k + 1) = (rowN t j).take k ++ [⟨((tot t j + k : Nat) : Int), 3⟩] := by
  unfold rowN
  rw [List.take_add_one, List.getElem?_map, List.getElem?_range hk]
  rfl
/-- The rows so far. -/
structure RNw (w wr : World) (t : List Pg) (j : Nat) (A : Option Addr) (cc : Nat) : Prop where
  blk : Blk wr w.heap.size 122 #[.pointer none, .slice A j cc]
  fr : Fr [] w wr
  row : ∃ vs : List Value, vs.length = j ∧ wr.ownsRow (w.heap.size + 1) 62 1 (.slice A j cc) j vs ∧ ∀ i, i < j → ∃ v, vs[i]? = some v ∧ TbT wr v (rowN t i)
theorem RNw.to {w wr W : World} {t : List Pg} {j cc : Nat} {A : Option Addr} (h : RNw w wr t j A cc) (hf : Fr [] wr W) : RNw w W t j A cc := by
  obtain ⟨hb, hfr, vs, h1, h2, h3⟩ := h
  refine ⟨hb.fr hf (by simp), hfr.trans hf, vs, h1, own_fr h2 hf (by simp), fun i hi => ?_⟩
  obtain ⟨v, e1, e2⟩ := h3 i hi
  exact ⟨v, e1, e2.fr hf (NoT.nil _ _)⟩
/-- One row more. -/
theorem RNw.push {w W : World} {t : List Pg} {j cc : Nat} {A : Option Addr} (h : RNw w W t j A cc) {v : Value} (hv : TbT W v (rowN t j)) : ∃ vs : List Value, vs.length = j ∧ (W.alloc (.cells #[v] 62)).ownsRow (w.heap.size + 1) 62 1 (.slice A j cc) j vs ∧ ∀ v1 w5, w5.ownsRow (w.heap.size + 1) 62 1 v1 (j + 1) (vs ++ [v]) → (W.alloc (.cells #[v] 62)).grownBy w5 (Value.ownBlock (.slice A j cc)) → ∃ g2 c2, v1 = .slice (some ⟨g2, 0, none⟩) (j + 1) c2 ∧ w5.cell? ⟨w.heap.size, 1, none⟩ = some (.slice A j cc) ∧ w5.frozen? ⟨w.heap.size, 1, none⟩ = false ∧ RNw w (w5.setCell ⟨w.heap.size, 1, none⟩ (.slice (some ⟨g2, 0, none⟩) (j + 1) c2)) t (j + 1) (some ⟨g2, 0, none⟩) c2 := by
  have hfa : Fr [] W (W.alloc (.cells #[v] 62)) := (Fr.refl [] W).alloc _
  have h' := h.to hfa
  obtain ⟨hb, hfr, vs, h1, h2, h3⟩ := h'
  refine ⟨vs, h1, h2, fun v1 w5 ho hg => ?_⟩
  obtain ⟨g2, c2, rfl⟩ := own_succ ho
  have hfo := Fr.of_own hg
  have hnw : w.heap.size ∉ (Value.ownBlock (.slice A j cc)).toList := fun hk => by
    have := (own_blk h2 _ hk).1
    omega
  have hno : NoT 61 (W.alloc (.cells #[v] 62)) (Value.ownBlock (.slice A j cc)).toList := fun k hk => by
    obtain ⟨-, cs, hbk⟩ := own_blk h2 k hk
    exact hbk.not (t' := 61) (by decide) k (by simp)
  have hb5 := hb.fr hfo hnw
  have hfs : Fr [w.heap.size] w5 (w5.setCell ⟨w.heap.size, 1, none⟩ (.slice (some ⟨g2, 0, none⟩) (j + 1) c2)) := (Fr.refl [w.heap.size] w5).setCell (p := ⟨w.heap.size, 1, none⟩) (.inl (by simp)) _
  have hns : NoT 61 w5 [w.heap.size] := hb5.not (by decide)
  have hf5 : Fr [] w w5 := hfr.step hfo (fun k hk => .inr (by have := (own_blk h2 k hk).1; omega))
  refine ⟨g2, c2, rfl, hb5.cell 1, hb5.frozen 1, hb5.set_ 1 _, hf5.setCell (p := ⟨w.heap.size, 1, none⟩) (.inr (Nat.le_refl _)) _, vs ++ [v], by rw [List.length_append, h1]; rfl, own_fr ho hfs (fun k hk cs hbk => ?_), fun i hi => ?_⟩
  · simp at hk
    subst hk
    exact absurd (hb5.eq hbk).1 (by decide)
  · rw [List.getElem?_append]
    by_cases e : i < j
    · obtain ⟨u, e1, e2⟩ := h3 i e
      exact ⟨u, by rw [if_pos (by omega)]; exact e1, (e2.fr hfo hno).fr hfs hns⟩
    · obtain rfl : i = j := by omega
      exact ⟨v, by rw [if_neg (by omega), h1]; simp, ((hv.fr hfa (NoT.nil _ _)).fr hfo hno).fr hfs hns⟩
/-- A row under way. -/
structure RNi (wr W : World) (t : List Pg) (j k : Nat) (A : Option Addr) (cc : Nat) : Prop where
  fr : Fr [] wr W
  own : W.ownsRow wr.heap.size 61 2 (.slice A k cc) k (cellsT ((rowN t j).take k))
theorem RNi.next {wr W : World} {t : List Pg} {j k cc : Nat} {A : Option Addr} (h : RNi wr W t j k A cc) (hk : k < rN t j) : (W.alloc (.cells #[.int .i64 ((tot t j + k : Nat) : Int), .int .i64 3] 61)).ownsRow wr.heap.size 61 2 (.slice A k cc) k (cellsT ((rowN t j).take k)) ∧ ∀ v1 w5, w5.ownsRow wr.heap.size 61 2 v1 (k + 1) (cellsT ((rowN t j).take k) ++ [.int .i64 ((tot t j + k : Nat) : Int), .int .i64 3]) → (W.alloc (.cells #[.int .i64 ((tot t j + k : Nat) : Int), .int .i64 3] 61)).grownBy w5 (Value.ownBlock (.slice A k cc)) → ∃ g2 c2, v1 = .slice (some ⟨g2, 0, none⟩) (k + 1) c2 ∧ RNi wr w5 t j (k + 1) (some ⟨g2, 0, none⟩) c2 := by
  have hfa : Fr [] W (W.alloc (.cells #[.int .i64 ((tot t j + k : Nat) : Int), .int .i64 3] 61)) := (Fr.refl [] W).alloc _
  have ho := own_fr h.own hfa (by simp)
  refine ⟨ho, fun v1 w5 h1 hg => ?_⟩
  obtain ⟨g2, c2, rfl⟩ := own_succ h1
  exact ⟨g2, c2, rfl, (h.fr.trans hfa).own ho hg, by rw [rowN_take t hk, cellsT_app]; exact h1⟩
theorem RNi.done {wr W : World} {t : List Pg} {j k cc : Nat} {A : Option Addr} (h : RNi wr W t j k A cc) (hk : k = rN t j) (h1 : 1 ≤ k) : TbT W (.slice A k cc) (rowN t j) := by
  have ho := h.own
  rw [List.take_of_length_le (by rw [rowN_len]; omega)] at ho
  have hl : (rowN t j).length = k := by rw [rowN_len]; omega
  rw [← hl] at ho ⊢
  obtain ⟨g2, cap2, hv2, -, q2, q3, hP⟩ := own_pb ho (by omega)
  rw [hv2]
  exact hP.tb q2 q3
def RSNewP (w : World) (t : List Pg) (e : Ending) (w' : World) : Prop := ∃ y q G g, e = .returned (.tuple #[ptr y, .int .i64 0]) ∧ RSp w' y q G g (spNew t) ∧ Fr [] w w' ∧ w.heap.size ≤ y ∧ w.heap.size ≤ q ∧ w.heap.size ≤ G ∧ w.heap.size ≤ g
theorem RNw.done {w wr w2 : World} {t : List Pg} {j cc q G : Nat} {A : Option Addr} (h : RNw w wr t j A cc) (hj : j = t.length) (h1 : 1 ≤ j) (h8 : j ≤ 8) (hok : t.all ptOk = true) (hm : RMem w2 q G ⟨tot t j, fun _ => 0⟩) (hf : Fr [] wr w2) (hq : wr.heap.size ≤ q) (hG : wr.heap.size ≤ G) : w2.cell? ⟨w.heap.size, 0, none⟩ = some (.pointer none) ∧ w2.frozen? ⟨w.heap.size, 0, none⟩ = false ∧ RSNewP w t (.returned (.tuple #[ptr w.heap.size, .int .i64 0])) (w2.setCell ⟨w.heap.size, 0, none⟩ (ptr q)) := by
  have hs := h.fr.size
  have hlt := h.blk.lt
  obtain ⟨hb, hfr, vs, hv, ho, hr⟩ := h.to hf
  have hne : (.slice A j cc : Value) ≠ .slice none 0 0 := fun hh => by injection hh; omega
  obtain ⟨g, cap, cs, e1, k1, k2, k3, k4, k5⟩ := own_some ho hne
  injection e1 with e1 _ e3
  subst e1
  subst e3
  have hfs : Fr [w.heap.size] w2 (w2.setCell ⟨w.heap.size, 0, none⟩ (ptr q)) := (Fr.refl [w.heap.size] w2).setCell (p := ⟨w.heap.size, 0, none⟩) (.inl (by simp)) _
  have hns : NoT 61 w2 [w.heap.size] := hb.not (by decide)
  have hl : (spNew t).tb.length = j := by unfold spNew; simp [hj]
  have htb : ∀ (i : Nat) (u : List Pg), (spNew t).tb[i]? = some u → i < j ∧ u = rowN t i := fun i u hi => by
    have hil := (List.getElem?_eq_some_iff.1 hi).1
    rw [hl] at hil
    unfold spNew at hi
    rw [List.getElem?_map, List.getElem?_range (by omega)] at hi
    injection hi with hi
    exact ⟨hil, hi.symm⟩
  refine ⟨hb.cell 0, hb.frozen 0, w.heap.size, q, G, g, rfl, ⟨⟨cc, by rw [hl]; exact hb.set_ 0 _, by omega, k3⟩, ?_, ⟨cs, k4.fr hfs (by simp; omega), fun i u hi => ?_⟩, by omega, by omega, fun i u hi => ?_⟩, hfr.setCell (p := ⟨w.heap.size, 0, none⟩) (.inr (Nat.le_refl _)) _, Nat.le_refl _, by omega, by omega, by omega⟩
  · have : (spNew t).st = ⟨tot t j, fun _ => 0⟩ := by unfold spNew; rw [hj]
    rw [this]
    exact hm.to hfs (by simp; omega) (by simp; omega)
  · obtain ⟨hi1, rfl⟩ := htb i u hi
    obtain ⟨v, e1, e2⟩ := hr i hi1
    exact ⟨v, k5 i v e1, e2.fr hfs hns⟩
  · obtain ⟨hi1, rfl⟩ := htb i u hi
    rw [rowN_len]
    exact rN_le hok i
theorem rSNew_bad (b m cap : Nat) (A : Option Addr) (t : List Pg) (w : World) (ht : Tb w b (.slice A m cap) t) (hE : ptsE t ≠ 0) : Calls Try.prog 21 #[.slice A m cap] w fun e w' => e = .returned (.tuple #[.pointer none, .int .i64 120]) ∧ w = w' := by
  have HC := Lib.hid (Check_pts b m cap A t w ht)
  rw [decide_eq_false hE] at HC
  clear ht hE
  go_enter Try.func21, Try.ntmps21
  go_wp2_with (go_at_call 14; refine HC.out.mono ?_; rintro e w1 ⟨rfl, rfl⟩)
  go_ret2
  exact ⟨rfl, rfl⟩
set_option maxHeartbeats 4000000 in
theorem rSNew_ok (b m cap : Nat) (A : Option Addr) (t : List Pg) (w : World) (ht : Tb w b (.slice A m cap) t) (hE : ptsE t = 0) : Calls Try.prog 21 #[.slice A m cap] w (RSNewP w t) := by
  obtain ⟨i0, hi0, hz0, hz1, hz2⟩ := info3 Try.info61
  obtain ⟨j0, hj0, jz0, jz1, jz2⟩ := info3 Try.info62
  have HC := Lib.hid (Check_pts b m cap A t w ht)
  rw [decide_eq_true hE] at HC
  have hm := ht.n_eq
  obtain ⟨⟨n1, n8⟩, hok⟩ : (1 ≤ t.length ∧ t.length ≤ 8) ∧ t.all ptOk = true := by
    unfold ptsE at hE
    split at hE
    · assumption
    · cases hE
  rw [← hm] at n1 n8
  obtain ⟨off, hA, -⟩ := ht.at_ (List.getElem?_eq_getElem (show 0 < t.length by omega))
  subst hA
  have HT : Hid (∀ i, i < m → 1 ≤ rN t i ∧ rN t i ≤ 16 ∧ ∀ W, Fr [] w W → W.cell? ⟨b, off + i * 2 + 1, none⟩ = some (.int .i64 ((rN t i : Nat) : Int))) := Lib.hid fun i hi => by
    have hpi : t[i]? = some (t[i]'(by omega)) := List.getElem?_eq_getElem (by omega)
    obtain ⟨off', hA, -, p0, p1⟩ := ht.at_ hpi
    injection hA with hA
    injection hA with _ hA _
    subst hA
    obtain ⟨r1, r2, r3⟩ := ptOk_all hok hpi
    refine ⟨by omega, by omega, fun W hf => ?_⟩
    rw [show ((rN t i : Nat) : Int) = (t[i]'(by omega)).r by omega]
    exact hf.cell_some p1 (by simp)
  have Hm := Lib.hid hm
  have Hok := Lib.hid hok
  have Htl := Lib.hid (fun j => tot_le hok j)
  have HN1 := Lib.hid n1
  have HS : Hid (RNw w (w.alloc (.cells #[.pointer none, .slice none 0 0] 122)) t 0 none 0) := Lib.hid ⟨Blk.new w 122 _, (Fr.refl [] w).alloc _, [], rfl, World.ownsRow_nil _ _ _ _, fun i hi => by omega⟩
  clear ht hE hm hok
  go_enter Try.func21, Try.ntmps21
  go_wp2_with (go_at_call 14; refine HC.out.mono ?_; rintro e w1 ⟨rfl, rfl⟩)
  go_loopg [5, 6] m (fun gg vf vi wr => ∃ (j : Nat) (A : Option Addr) (cc : Nat), j + gg = m ∧ vi = .int .i64 (j : Int) ∧ vf = .int .i64 ((tot t j : Nat) : Int) ∧ RNw w wr t j A cc)
  case atStart => exact ⟨0, _, _, by omega, rfl, rfl, HS.out⟩
  case round =>
    obtain ⟨j, A, cc, hj, rfl, rfl, hI⟩ := hrel
    have Hj := Lib.hid hj
    clear HS
    by_cases hlt : j < m
    · have hlt' : (j : Int) < (m : Int) := by omega
      have hj0' : (0 : Int) ≤ (j : Int) := by omega
      have hwj : IntKind.i64.wrap ((j : Int) + 1) = (j : Int) + 1 := IntWalk.i64_in _ (by omega)
      obtain ⟨r1, r16, HP⟩ := HT.out j hlt
      have htl : tot t j ≤ 128 := by have := Htl.out j; omega
      obtain ⟨W0, rfl⟩ : ∃ W0, W0 = wr := ⟨_, rfl⟩
      have HI := Lib.hid hI
      have HSi : Hid (RNi W0 (W0.alloc (.cells #[] 61)) t j 0 (some ⟨W0.heap.size, 0, none⟩) 0) := Lib.hid ⟨(Fr.refl [] W0).alloc _, World.ownsRow_made (base := W0.heap.size) (e := 61) (size := 2) W0 #[] 0 (Nat.le_refl _) (by simp [maxLen]) (by simp)⟩
      have Hts := Lib.hid (tot_succ t j)
      have HR := Lib.hid r1
      have hHP := Lib.hid HP
      clear hI hj HP
      go_wp2_with fail
      go_loopg [5, 7, 8] (rN t j) (fun gg vf v vi W => ∃ (k : Nat) (A : Option Addr) (c7 : Nat), k + gg = rN t j ∧ vi = .int .i64 (k : Int) ∧ vf = .int .i64 ((tot t j + k : Nat) : Int) ∧ v = .slice A k c7 ∧ RNi W0 W t j k A c7)
      case atStart => exact ⟨0, _, _, by omega, rfl, rfl, rfl, HSi.out⟩
      case round =>
        obtain ⟨k, A7, c7, hk, rfl, rfl, rfl, hR⟩ := hrel
        have Hk := Lib.hid hk
        have pc := hHP.out _ (HI.out.fr.trans hR.fr)
        clear HSi
        by_cases hltk : k < rN t j
        · have hltk' : (k : Int) < ((rN t j : Nat) : Int) := by omega
          have hwk : IntKind.i64.wrap ((k : Int) + 1) = (k : Int) + 1 := IntWalk.i64_in _ (by omega)
          have hwf : IntKind.i64.wrap (((tot t j + k : Nat) : Int) + 1) = ((tot t j + (k + 1) : Nat) : Int) := by rw [IntWalk.i64_in _ (by omega)]; omega
          obtain ⟨o1, o2⟩ := hR.next hltk
          have HO1 := Lib.hid o1
          have HO2 := Lib.hid o2
          have hsz : W0.heap.size ≤ (wr.alloc (.cells #[.int .i64 ((tot t j + k : Nat) : Int), .int .i64 3] 61)).heap.size := by
            have := hR.fr.size
            rw [World.size_alloc]
            omega
          have hm1 : k + 1 ≤ maxLen := by simp only [maxLen]; omega
          have hm2 : (k + 1) * 16 ≤ 140737488355328 := by omega
          clear o1 o2 hR hk
          generalize hF : ((tot t j + k : Nat) : Int) = F at *
          generalize hF2 : ((tot t j + (k + 1) : Nat) : Int) = F2 at *
          have HF2 := Lib.hid hF2
          clear hF hF2
          go_wp2_with (at_builtin; go_must (refine wpList_append_own _ rfl (.tmp 30) (.tmp 33) 62 rfl W0.heap.size 61 i0 (.agg #[.int .i64 0, .int .i64 0]) 2 16 Try.underlying62 hi0 hz0 hz1 hz2 rfl (Nat.succ_pos 1) (.slice A7 k c7) k _ rfl HO1.out ⟨wr.heap.size, 0, none⟩ 1 1 [.int .i64 F, .int .i64 3] rfl rfl (newsPg wr (.int .i64 F) (.int .i64 3)) (by simp [Value.oneCell']) hm1 hm2 hsz ?_; intro v1 w5 hown1 hg1 hnn; obtain ⟨g2, c2, rfl, hR⟩ := HO2.out _ _ hown1 hg1; have HR5 := Lib.hid hR; clear hown1 hg1 hnn hR))
          go_roundg (rN t j - (k + 1))
          case measure => have := Hk.out; omega
          case rel => exact ⟨k + 1, _, _, by have := Hk.out; omega, by go_num, by rw [HF2.out], rfl, HR5.out⟩
        · have hltk' : ¬ (k : Int) < ((rN t j : Nat) : Int) := by omega
          have hkr : k = rN t j := by omega
          have hT := hR.done hkr (by omega)
          have hI2 := HI.out.to hR.fr
          obtain ⟨vs, hvl, o1, o2⟩ := hI2.push hT
          have HO1 := Lib.hid o1
          have HO2 := Lib.hid o2
          have hsz : w.heap.size + 1 ≤ (wr.alloc (.cells #[.slice A7 k c7] 62)).heap.size := by
            have := hI2.blk.lt
            rw [World.size_alloc]
            omega
          have hm1 : j + 1 ≤ maxLen := by simp only [maxLen]; omega
          have hm2 : (j + 1) * 24 ≤ 140737488355328 := by omega
          have Hnew := Lib.hid (news1 ((Blk.new wr 62 #[.slice A7 k c7]).cell 0))
          have c1 := hI2.blk.cell 1
          simp at c1
          have hF : ((tot t j + k : Nat) : Int) = ((tot t (j + 1) : Nat) : Int) := by rw [Hts.out, hkr]
          generalize ((tot t j + k : Nat) : Int) = F at *
          have HF := Lib.hid hF
          clear o1 o2 hR hk hT hI2 hF hkr
          go_wp2_with (at_builtin; go_must (refine wpList_append_own _ rfl (.tmp 41) (.tmp 43) 112 rfl (w.heap.size + 1) 62 j0 (.slice none 0 0) 1 24 Try.underlying112 hj0 jz0 jz1 jz2 rfl (Nat.succ_pos 0) (.slice A j cc) j vs rfl HO1.out ⟨wr.heap.size, 0, none⟩ 1 1 [.slice A7 k c7] rfl rfl Hnew.out (by simp [Value.oneCell']) hm1 hm2 hsz ?_; intro v1 w5 hown1 hg1 hnn; obtain ⟨g2, c2, rfl, x1, x2, hR⟩ := HO2.out _ _ hown1 hg1; have HR5 := Lib.hid hR; clear hown1 hg1 hnn hR))
          go_roundg (m - (j + 1))
          case measure => have := Hj.out; omega
          case rel => exact ⟨j + 1, _, _, by have := Hj.out; omega, by go_num, by rw [HF.out], HR5.out⟩
    · have hlt' : ¬ (j : Int) < (m : Int) := by omega
      obtain rfl : m = j := by omega
      have h1 : 1 ≤ tot t m := by
        have e1 := (HT.out 0 (by omega)).1
        have e2 := tot_mono (t := t) (show 1 ≤ m by omega)
        have e3 := tot_succ t 0
        have e4 : tot t 0 = 0 := rfl
        rw [Nat.zero_add] at e3
        omega
      have h2 : tot t m ≤ 160 := by have := Htl.out m; omega
      have HW := Lib.hid (rNew_any (tot t m) wr h1 h2)
      have HD := Lib.hid (fun w2 q G hm hf h1 h2 => hI.done (w2 := w2) (q := q) (G := G) Hm.out HN1.out n8 Hok.out hm hf h1 h2)
      unfold RSNewP at HD ⊢
      clear hI hj
      generalize ((tot t m : Nat) : Int) = F at *
      go_wp2_with (go_at_call 41; refine HW.out.mono ?_; rintro e w2 ⟨q', G', rfl, hm2, hf2, b1, b2⟩; obtain ⟨x1, x2, hD⟩ := HD.out _ _ _ hm2 hf2 b1 b2; have HDD := Lib.hid hD; clear hD hm2 hf2)
      go_ret2
      exact HDD.out
end Go.Proofs.Ytonongaakieciaa

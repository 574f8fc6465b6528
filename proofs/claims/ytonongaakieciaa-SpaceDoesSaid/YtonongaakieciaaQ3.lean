/- The reference's space: Load. -/
import Derived.Test.YtonongaakieciaaQ2
namespace Go.Proofs.Ytonongaakieciaa
open Go.RowKit
set_option linter.unusedVariables false
set_option linter.unusedSimpArgs false
set_option maxRecDepth 100000
/-- The pages ahead of i, loaded. -/
def ldA (tb : List Pg) (t : ByteArray) (i : Nat) : List Pg := (tb.mapIdx (pgL t)).take i
theorem ldA_next {tb : List Pg} {t : ByteArray} {i : Nat} {p : Pg} (h : tb[i]? = some p) : ldA tb t (i + 1) = ldA tb t i ++ [pgL t i p] := by
  unfold ldA
  rw [List.take_add_one, List.getElem?_mapIdx, h]
  rfl
theorem ldA_all (tb : List Pg) (t : ByteArray) : ldA tb t tb.length = ldT tb t tb.length := by
  unfold ldA ldT
  rw [List.take_of_length_le (by simp)]
  refine List.ext_getElem? fun j => ?_
  rw [List.getElem?_mapIdx, List.getElem?_mapIdx]
  cases h : tb[j]? with
  | none => rfl
  | some p =>
    have hj : j < tb.length := (List.getElem?_eq_some_iff.1 h).1
    simp [hj]
theorem cellsT_app (s t : List Pg) : cellsT (s ++ t) = cellsT s ++ cellsT t := by simp [cellsT]
theorem RSp.setT {w W : World} {y q G g : Nat} {x : Sp} (h : RSp w y q G g x) (hf : Fr [G] w W) {st' : St} (hm : RMem W q G st') {v : Value} {t' : List Pg} (hv : TbT W v t') (ht : t'.length ≤ 16) {k : Nat} (hk : k < x.tb.length) : RSp (W.setCell ⟨g, k, none⟩ v) y q G g ⟨st', x.tb.set k t'⟩ := by
  obtain ⟨e1, e2, e3, e4, e5, e6⟩ := h.ne
  obtain ⟨-, -, ⟨c3, h3⟩, -⟩ := h.blks
  obtain ⟨⟨cap, hb, hc⟩, -, ⟨cs, hg, hr⟩, n1, n2, n3⟩ := h
  have hg1 := hg.fr hf (by simp; omega)
  have hfg : Fr [g] W (W.setCell ⟨g, k, none⟩ v) := (Fr.refl [g] W).setCell (p := ⟨g, k, none⟩) (.inl (by simp)) v
  have hng : NoT 61 W [g] := hg1.not (by decide)
  refine ⟨⟨cap, by rw [List.length_set]; exact (hb.fr hf (by simp; omega)).fr hfg (by simp; omega), by rw [List.length_set]; exact hc⟩, hm.to hfg (by simp; omega) (by simp; omega), ⟨_, hg1.set_ k v, fun i t hi => ?_⟩, by rw [List.length_set]; exact n1, by rw [List.length_set]; exact n2, fun i t hi => ?_⟩
  · rw [List.getElem?_set] at hi
    have hkc : k < cs.size := by
      obtain ⟨v0, e0, -⟩ := hr k _ (List.getElem?_eq_getElem hk)
      exact (Array.getElem?_eq_some_iff.1 e0).1
    rw [Array.getElem?_setIfInBounds]
    by_cases e : k = i
    · subst e
      rw [if_pos rfl, if_pos hk] at hi
      injection hi with hi
      subst hi
      exact ⟨v, by rw [if_pos rfl, if_pos hkc], hv.fr hfg hng⟩
    · rw [if_neg e] at hi
      obtain ⟨v0, e0, hT⟩ := hr i t hi
      exact ⟨v0, by rw [if_neg e]; exact e0, (hT.fr hf (h3.not (by decide))).fr hfg hng⟩
  · rw [List.getElem?_set] at hi
    split at hi
    · first
      | (injection hi with hi
         subst hi
         exact ht)
      | (split at hi
         · injection hi with hi
           subst hi
           exact ht
         · cases hi)
    · exact n3 i t hi
/-- A page under way, in a block that is the round's own. -/
structure RLx (wr W : World) (q G X : Nat) (m : St) (f r : Int) : Prop where
  fr : Fr [G] wr W
  mem : RMem W q G m
  bx : Blk W X 61 #[.int .i64 f, .int .i64 r]
  hX : wr.heap.size ≤ X
section
variable {wr W W' : World} {q G X : Nat} {m m' : St} {f r : Int}
theorem RLx.drew (h : RLx wr W q G X m f r) : RLx wr W.drew q G X m f r := ⟨h.fr.drew, h.mem.to (Fr.refl [] W).drew (by simp) (by simp), h.bx.fr (Fr.refl [] W).drew (by simp), h.hX⟩
theorem RLx.xG (h : RLx wr W q G X m f r) : X ≠ G := by
  obtain ⟨-, cs, hb, -⟩ := h.mem
  exact h.bx.ne_type hb (by decide)
theorem RLx.call (h : RLx wr W q G X m f r) (hm : RMem W' q G m') (hf : Fr [G] W W') : RLx wr W' q G X m' f r := ⟨h.fr.trans hf, hm, h.bx.fr hf (by simp; exact h.xG), h.hX⟩
theorem RLx.store (h : RLx wr W q G X m f r) (v : Int) : RLx wr (W.setCell ⟨X, 1, none⟩ (.int .i64 v)) q G X m f v := by
  have hf : Fr [X] W (W.setCell ⟨X, 1, none⟩ (.int .i64 v)) := (Fr.refl [X] W).setCell (p := ⟨X, 1, none⟩) (.inl (by simp)) _
  have hX := h.hX
  have hx := h.xG
  obtain ⟨⟨c, hq, -⟩, -⟩ := h.mem.hd
  have hxq : X ≠ q := h.bx.ne_type hq (by decide)
  exact ⟨h.fr.step hf (fun k hk => by simp at hk; subst hk; exact .inr hX), h.mem.to hf (by simp; omega) (by simp; omega), h.bx.set_ 1 _, hX⟩
theorem RLx.cells (h : RLx wr W q G X m f r) : W.cell? ⟨X, 0, none⟩ = some (.int .i64 f) ∧ W.cell? ⟨X, 1, none⟩ = some (.int .i64 r) ∧ W.frozen? ⟨X, 1, none⟩ = false := ⟨h.bx.cell 0, h.bx.cell 1, h.bx.frozen 1⟩
theorem RLx.clear (h : RLx wr W q G X m f r) : Calls Try.prog 64 #[ptr q, .int .i64 f] W fun e w' => e = .returned (.int .i64 (clE m.n f)) ∧ RLx wr w' q G X (clS m f) f r :=
  (rClear_any q G m W f h.mem).mono fun e w' ⟨he, hm, hf⟩ => ⟨he, h.call hm hf⟩
theorem RLx.lay (h : RLx wr W q G X m f r) (s : ByteArray) (hs : s.size ≤ maxLen) : Calls Try.prog 43 #[ptr q, .int .i64 f, .int .i64 0, .string s] W fun e w' => e = .returned (.int .i64 (layE m.n f 0 s)) ∧ RLx wr w' q G X (layS m f 0 s) f r :=
  (rLay_any q G m W f 0 s h.mem hs).mono fun e w' ⟨he, hm, hf⟩ => ⟨he, h.call hm hf⟩
end
/-- Rounds under way. -/
structure RLd (w wr : World) (q G : Nat) (v : Value) (k : Nat) (T : List Pg) (m : St) : Prop where
  fr : Fr [G] w wr
  mem : RMem wr q G m
  own : wr.ownsRow w.heap.size 61 2 v k (cellsT T)
/-- What an append onto the row is given, and what it leaves. -/
theorem RLd.owns {w wr W : World} {q G X i cc : Nat} {A : Option Addr} {T : List Pg} {m0 m : St} {f r : Int} (h : RLd w wr q G (.slice A i cc) i T m0) (hL : RLx wr W q G X m f r) : (W.alloc (.cells #[.int .i64 f, .int .i64 r] 61)).ownsRow w.heap.size 61 2 (.slice A i cc) i (cellsT T) := by
  refine own_fr h.own (hL.fr.alloc _) fun k hk cs hb => ?_
  simp at hk
  subst hk
  obtain ⟨-, cs', hb', -⟩ := h.mem
  exact absurd (hb.eq hb').1 (by decide)
theorem RLd.push {w wr W w5 : World} {q G X i cc : Nat} {A : Option Addr} {T : List Pg} {m0 m : St} {f r : Int} {v1 : Value} (h : RLd w wr q G (.slice A i cc) i T m0) (hL : RLx wr W q G X m f r) (ho : w5.ownsRow w.heap.size 61 2 v1 (i + 1) (cellsT T ++ [.int .i64 f, .int .i64 r])) (hg : (W.alloc (.cells #[.int .i64 f, .int .i64 r] 61)).grownBy w5 (Value.ownBlock (.slice A i cc))) : ∃ g2 c2, v1 = .slice (some ⟨g2, 0, none⟩) (i + 1) c2 ∧ RLd w w5 q G (.slice (some ⟨g2, 0, none⟩) (i + 1) c2) (i + 1) (T ++ [⟨f, r⟩]) m := by
  have hv : v1 ≠ .slice none 0 0 := by
    intro hv
    rcases ho.2 with ⟨q1, q2⟩ | ⟨g, cap, cur, q1, -⟩
    · omega
    · rw [hv] at q1
      cases q1
  have hO := h.owns hL
  have hm := hL.mem.to ((Fr.refl [] W).alloc (.cells #[.int .i64 f, .int .i64 r] 61)) (by simp) (by simp)
  have hF : Fr [G] w (W.alloc (.cells #[.int .i64 f, .int .i64 r] 61)) := (h.fr.trans hL.fr).alloc _
  obtain ⟨⟨cq, hq, -⟩, -⟩ := hm.hd
  obtain ⟨-, cG, hG, -⟩ := id hm
  have hm5 := hm.to (Fr.of_own hg) (fun hk => by
    obtain ⟨-, cs, hb⟩ := own_blk hO _ hk
    exact absurd (hb.eq hq).1 (by decide)) (fun hk => by
    obtain ⟨-, cs, hb⟩ := own_blk hO _ hk
    exact absurd (hb.eq hG).1 (by decide))
  have hF5 := hF.own hO hg
  obtain ⟨g2, c2, cs2, rfl, -⟩ := own_some ho hv
  exact ⟨g2, c2, rfl, hF5, hm5, by rw [cellsT_app]; exact ho⟩
theorem newsPg' (W : World) (n : Nat) (hn : W.heap.size = n) (f r : Value) : ∀ (j : Nat) (u : Value), [f, r][j]? = some u → (W.alloc (.cells #[f, r] 61)).cell? ((⟨n, 0, none⟩ : Addr).add j) = some u := by
  intro j u hj
  rw [addr_add, Nat.zero_add, ← hn, (Blk.new W 61 #[f, r]).cell]
  simpa using hj
theorem newsPg (W : World) (f r : Value) : ∀ (j : Nat) (u : Value), [f, r][j]? = some u → (W.alloc (.cells #[f, r] 61)).cell? ((⟨W.heap.size, 0, none⟩ : Addr).add j) = some u := by
  intro j u hj
  rw [addr_add, Nat.zero_add, (Blk.new W 61 #[f, r]).cell]
  simpa using hj
set_option maxHeartbeats 4000000 in
theorem rLoad_sp (y q G g : Nat) (x : Sp) (i : Int) (t : ByteArray) (w : World) (h : RSp w y q G g x) (hn1 : ∀ (i : Nat) (t : List Pg), x.tb[i]? = some t → 1 ≤ t.length) : Calls Try.prog 22 #[ptr y, .int .i64 i, .string t] w fun e w' => e = .returned (.int .i64 (ldE x i t)) ∧ RSpT y q G g w (ldS x i t) w' := by
  obtain ⟨i0, hi0, hz0, hz1, hz2⟩ := info3 Try.info61
  have HI := Lib.hid (rHasP_any y q G g x i w h)
  obtain ⟨cap, c0, c1⟩ := h.cells
  have HR : Hid (RSpT y q G g w x w) := Lib.hid ⟨h, Fr.refl _ _⟩
  cases hp : hasP x i with
  | false =>
    have E1 : ldE x i t = 120 := by unfold ldE; rw [if_pos hp]
    have E2 : ldS x i t = x := by unfold ldS; rw [E1]; rfl
    rw [E1, E2]
    rw [hp] at HI
    clear h E1 E2 hp
    go_enter Try.func22, Try.ntmps22
    go_wp2_with (go_at_call 63; refine HI.out.mono ?_; rintro e w1 ⟨rfl, rfl⟩)
    go_ret
    exact ⟨rfl, HR.out⟩
  | true =>
    rw [hp] at HI
    obtain ⟨k, tb, rfl, hk⟩ := hasP_some hp
    have hkn : k < x.tb.length := (List.getElem?_eq_some_iff.1 hk).1
    obtain ⟨-, hto⟩ := tbOf_some hk
    obtain ⟨A, c, b, c2, hc1, hc2, hTb, hbl, hbG, hTT⟩ := h.table hk
    have h1 := hn1 k tb hk
    have h16 := h.n3 k tb hk
    have hk' : (k : Int) < (x.tb.length : Int) := by omega
    have hk0 : (0 : Int) ≤ (k : Int) := by omega
    have hwl : IntKind.i64.wrap (256 * (tb.length : Int)) = 256 * (tb.length : Int) := IntWalk.i64_in _ (by omega)
    by_cases hs : tb.length * 256 < t.size
    · have E1 : ldE x (k : Int) t = 122 := by unfold ldE; rw [if_neg (by rw [hp]; simp), hto, if_pos hs]
      have E2 : ldS x (k : Int) t = x := by unfold ldS; rw [E1]; rfl
      rw [E1, E2]
      have hs' : 256 * (tb.length : Int) < (t.size : Int) := by omega
      clear h E1 E2 hp hto hTb hTT hk hkn hs hc1
      generalize x.tb.length = N at *
      generalize tb.length = m at *
      go_enter Try.func22, Try.ntmps22
      go_wp2_with (first
        | (go_at_call 63; refine HI.out.mono ?_; rintro e w1 ⟨rfl, rfl⟩))
      go_ret
      exact ⟨rfl, HR.out⟩
    · have E1 : ldE x (k : Int) t = 0 := by unfold ldE; rw [if_neg (by rw [hp]; simp), hto, if_neg hs]
      have E2 : ldS x (k : Int) t = ⟨ldM x.st tb t tb.length, x.tb.set k (ldT tb t tb.length)⟩ := by unfold ldS; rw [E1, hto]; rfl
      rw [E1, E2]
      have hs' : ¬ 256 * (tb.length : Int) < (t.size : Int) := by omega
      have hst : t.size ≤ 4096 := by omega
      obtain ⟨n1, n2, n3, n4, n5, n6⟩ := h.ne
      obtain ⟨l1, l2, l3, l4⟩ := h.lt
      obtain ⟨off, hA, -⟩ := hTb.at_ (List.getElem?_eq_getElem (show 0 < tb.length by omega))
      subst hA
      have HK := Lib.hid (fun W (hf : Fr [G] w W) => (show W.cell? ⟨y, 0, none⟩ = some (ptr q) ∧ W.cell? ⟨y, 1, none⟩ = some (.slice (some ⟨g, 0, none⟩) x.tb.length cap) ∧ W.cell? ⟨g, k, none⟩ = some (.slice (some ⟨b, off, none⟩) tb.length c) ∧ W.frozen? ⟨g, k, none⟩ = false from ⟨hf.cell_some c0 (by simp; omega), hf.cell_some c1 (by simp; omega), hf.cell_some c2 (by simp; omega), by
        obtain ⟨-, -, -, ⟨c4, h4⟩⟩ := h.blks
        exact (h4.fr hf (by simp; omega)).frozen k⟩))
      have HE := Lib.hid (fun W gt cap' (hI : RLd w W q G (.slice (some ⟨gt, 0, none⟩) tb.length cap') tb.length (ldA tb t tb.length) (ldM x.st tb t tb.length)) => (show RSpT y q G g w ⟨ldM x.st tb t tb.length, x.tb.set k (ldT tb t tb.length)⟩ (W.setCell ⟨g, k, none⟩ (.slice (some ⟨gt, 0, none⟩) tb.length cap')) from by
        have ho := hI.own
        rw [ldA_all] at ho
        have hll := ldT_len tb t tb.length
        rw [← hll] at ho
        obtain ⟨g2, cap2, hv2, -, q2, q3, hP⟩ := own_pb (by rw [hll] at ho ⊢; exact ho) (by rw [hll]; exact h1)
        rw [hll] at hv2
        injection hv2 with e1 _ e3
        injection e1 with e1
        injection e1 with e1 _ _
        subst e1
        subst e3
        have hv := hP.tb q2 q3
        rw [hll] at hv
        exact ⟨h.setT hI.fr hI.mem hv (by rw [ldT_len]; exact h16) hkn, (hI.fr.mono (fun j hj _ => by simp at hj; simp [hj])).setCell (p := ⟨g, k, none⟩) (.inl (by simp)) _⟩))
      have HT : Hid (∀ i, i < tb.length → ∃ f r, tb[i]? = some ⟨f, r⟩ ∧ ((tb[i]?).getD ⟨0, 0⟩).f = f ∧ ∀ W, Fr [G] w W → W.cell? ⟨b, off + i * 2, none⟩ = some (.int .i64 f) ∧ W.cell? ⟨b, off + i * 2 + 1, none⟩ = some (.int .i64 r)) := Lib.hid fun i hi => by
        have hpi : tb[i]? = some (tb[i]) := List.getElem?_eq_getElem hi
        obtain ⟨off', hA, -, p0, p1⟩ := hTb.at_ hpi
        injection hA with hA
        injection hA with _ hA _
        subst hA
        exact ⟨_, _, hpi, by rw [hpi]; rfl, fun W hf => ⟨hf.cell_some p0 (by simp; omega), hf.cell_some p1 (by simp; omega)⟩⟩
      have HS : Hid (RLd w (w.alloc (.cells #[] 61)) q G (.slice (some ⟨w.heap.size, 0, none⟩) 0 0) 0 (ldA tb t 0) (ldM x.st tb t 0)) := Lib.hid ⟨(Fr.refl [G] w).alloc _, h.mem.to ((Fr.refl [] w).alloc _) (by simp) (by simp), World.ownsRow_made (base := w.heap.size) (e := 61) (size := 2) w #[] 0 (Nat.le_refl _) (by simp [maxLen]) (by simp)⟩
      have hm16 : tb.length ≤ 16 := h16
      clear h E1 E2 hp hto hTb hTT hk hs HR hkn n1 n2 n3 n4 n5 n6 l1 l2 l3 l4 hc1 hc2 hbl
      generalize x.tb.length = N at *
      generalize hm : tb.length = m at *
      clear hm
      go_enter Try.func22, Try.ntmps22
      go_wp2_with (first
        | (go_at_call 63; refine HI.out.mono ?_; rintro e w1 ⟨rfl, rfl⟩))
      go_loopg [8, 9] m (fun gg v vi wr => ∃ (i : Nat) (A : Option Addr) (cc : Nat), i + gg = m ∧ vi = .int .i64 (i : Int) ∧ v = .slice A i cc ∧ RLd w wr q G (.slice A i cc) i (ldA tb t i) (ldM x.st tb t i))
      case atStart => exact ⟨0, _, _, by omega, rfl, rfl, HS.out⟩
      case round =>
        obtain ⟨i, A, cc, hi, rfl, rfl, hI⟩ := hrel
        have Hi := Lib.hid hi
        clear HS
        by_cases hlt : i < m
        · have hlt' : (i : Int) < (m : Int) := by omega
          have hinn : (0 : Int) ≤ (i : Int) := by omega
          have hwi : IntKind.i64.wrap ((i : Int) + 1) = (i : Int) + 1 := IntWalk.i64_in _ (by omega)
          have hwm : IntKind.i64.wrap (256 * (i : Int)) = 256 * (i : Int) := IntWalk.i64_in _ (by omega)
          obtain ⟨f, r, ht1, ht3, HPg⟩ := HT.out i hlt
          obtain ⟨k0, k1, k2, kf⟩ := HK.out _ hI.fr
          obtain ⟨p0, p1⟩ := HPg _ hI.fr
          have HO := Lib.hid hI
          have HA : Hid (256 * i < t.size → ∀ W g2 c2, RLd w W q G (.slice (some ⟨g2, 0, none⟩) (i + 1) c2) (i + 1) (ldA tb t i ++ [⟨f, 5⟩]) (layS (clS (ldM x.st tb t i) f) f 0 (t.extract (256 * i) (min t.size (256 * i + 256)))) → RLd w W q G (.slice (some ⟨g2, 0, none⟩) (i + 1) c2) (i + 1) (ldA tb t (i + 1)) (ldM x.st tb t (i + 1))) := Lib.hid fun hb W g2 c2 hL => by
            rw [ldA_next ht1]
            have e1 : pgL t i ⟨f, r⟩ = ⟨f, 5⟩ := by unfold pgL; rw [if_pos hb]
            have e2 : ldM x.st tb t (i + 1) = layS (clS (ldM x.st tb t i) f) f 0 (t.extract (256 * i) (min t.size (256 * i + 256))) := by
              show ldO _ _ t i = _
              rw [ht3]
              unfold ldO
              rw [if_pos hb]
            rw [e1, e2]
            exact hL
          have HB : Hid (¬ 256 * i < t.size → ∀ W g2 c2, RLd w W q G (.slice (some ⟨g2, 0, none⟩) (i + 1) c2) (i + 1) (ldA tb t i ++ [⟨f, 3⟩]) (clS (ldM x.st tb t i) f) → RLd w W q G (.slice (some ⟨g2, 0, none⟩) (i + 1) c2) (i + 1) (ldA tb t (i + 1)) (ldM x.st tb t (i + 1))) := Lib.hid fun hb W g2 c2 hL => by
            rw [ldA_next ht1]
            have e1 : pgL t i ⟨f, r⟩ = ⟨f, 3⟩ := by unfold pgL; rw [if_neg hb]
            have e2 : ldM x.st tb t (i + 1) = clS (ldM x.st tb t i) f := by
              show ldO _ _ t i = _
              rw [ht3]
              unfold ldO
              rw [if_neg hb]
            rw [e1, e2]
            exact hL
          generalize hTN : ldA tb t (i + 1) = TN at *
          generalize hMN : ldM x.st tb t (i + 1) = MN at *
          have HTN := Lib.hid hTN
          have HMN := Lib.hid hMN
          clear hTN hMN
          generalize ldA tb t i = T0 at *
          generalize ldM x.st tb t i = m0 at *
          have HP := Lib.hid (fun W m' r' (hL : RLx wr W q G wr.heap.size m' f r') => (show (W.cell? ⟨y, 0, none⟩ = some (ptr q) ∧ W.cell? ⟨wr.heap.size, 0, none⟩ = some (.int .i64 f)) ∧ W.cell? ⟨wr.heap.size, 1, none⟩ = some (.int .i64 r') ∧ W.frozen? ⟨wr.heap.size, 1, none⟩ = false from ⟨⟨(HK.out _ (hI.fr.trans hL.fr)).1, hL.cells.1⟩, hL.cells.2⟩))
          have hL1 : RLx wr (wr.alloc (.cells #[.int .i64 f, .int .i64 r] 61)) q G wr.heap.size m0 f r := ⟨(Fr.refl [G] wr).alloc _, hI.mem.to ((Fr.refl [] wr).alloc _) (by simp) (by simp), Blk.new wr 61 _, Nat.le_refl _⟩
          have Hsz : Hid (∀ W, Fr [G] wr W → w.heap.size ≤ (W.alloc (.cells #[.int .i64 f, .int .i64 5] 61)).heap.size ∧ w.heap.size ≤ (W.alloc (.cells #[.int .i64 f, .int .i64 3] 61)).heap.size) := Lib.hid fun W hf => by
            have h1 := hI.fr.size
            have h2 := hf.size
            rw [World.size_alloc, World.size_alloc]
            omega
          have HL1 := Lib.hid hL1.drew
          obtain ⟨l1, -⟩ := HP.out _ _ _ hL1.drew
          have hm1 : i + 1 ≤ maxLen := by simp only [maxLen]; omega
          have hm2 : (i + 1) * 16 ≤ 140737488355328 := by omega
          clear hI hi ht1 ht3 HPg hL1
          by_cases hb : 256 * i < t.size
          · have HN := Lib.hid (HA.out hb)
            have hb' : 256 * (i : Int) < (t.size : Int) := by omega
            obtain ⟨E, hE⟩ : ∃ E : Nat, min t.size (256 * i + 256) = E := ⟨_, rfl⟩
            rw [hE] at HN
            have hEl : 256 * i < E := by omega
            have hEs : E ≤ t.size := by omega
            have hw2 : IntKind.i64.wrap (256 * (i : Int) + 256) = 256 * (i : Int) + 256 := IntWalk.i64_in _ (by omega)
            have hmn : min (t.size : Int) (256 * (i : Int) + 256) = (E : Int) := by omega
            have hsl := fun wx => sl_lh t (256 * i) E (256 * (i : Int)) (E : Int) (by omega) rfl wx (by omega) hEs
            have hos : (t.extract (256 * i) E).size ≤ maxLen := by rw [ByteArray.size_extract]; simp only [maxLen]; omega
            generalize t.extract (256 * i) E = own at *
            have Hos := Lib.hid hos
            clear HA HB hE hEl hEs hos hb
            go_wp2_with fail
            clear k0 k1 k2 kf p0 p1
            go_region_held3 (fun W => W.cell? ⟨y, 0, none⟩ = some (ptr q) ∧ W.cell? ⟨wr.heap.size, 0, none⟩ = some (.int .i64 f)) (first | exact kk | exact l1) (first
              | (go_at_call 64; refine (HL1.out.clear).mono ?_; rintro e w3 ⟨rfl, hL3⟩; obtain ⟨kk, x1, x2⟩ := HP.out _ _ _ hL3; have HS3 := Lib.hid ((hL3.store 3).store 5).drew; clear hL3))
            have l3 := (HP.out _ _ _ HS3.out).1
            go_wp2_with fail
            go_region_held3 (fun W => W.cell? ⟨y, 0, none⟩ = some (ptr q) ∧ W.cell? ⟨wr.heap.size, 0, none⟩ = some (.int .i64 f)) (first | exact kk4 | exact l3) (first
              | (go_at_call 43; refine (HS3.out.lay own Hos.out).mono ?_; rintro e w4 ⟨rfl, hL4⟩; obtain ⟨kk4, y1, y2⟩ := HP.out _ _ _ hL4; have HS4 := Lib.hid hL4; clear hL4))
            go_wp2_with (at_builtin; go_must (refine wpList_append_own _ rfl (.tmp 75) (.tmp 77) 62 rfl w.heap.size 61 i0 (.agg #[.int .i64 0, .int .i64 0]) 2 16 Try.underlying62 hi0 hz0 hz1 hz2 rfl (Nat.succ_pos 1) (.slice A i cc) i (cellsT T0) rfl (HO.out.owns HS4.out) ⟨w4.heap.size, 0, none⟩ 1 1 [.int .i64 f, .int .i64 5] rfl rfl (newsPg w4 (.int .i64 f) (.int .i64 5)) (by simp [Value.oneCell']) hm1 hm2 (Hsz.out _ HS4.out.fr).1 ?_; intro v1 w5 hown1 hg1 hnn; obtain ⟨g2, c2, rfl, hR⟩ := HO.out.push HS4.out hown1 hg1; have HR5 := Lib.hid (HN.out _ _ _ hR); clear hown1 hg1 hnn hR))
            go_roundg (m - (i + 1))
            case measure => have := Hi.out; omega
            case rel => exact ⟨i + 1, _, _, by have := Hi.out; omega, by go_num, rfl, by rw [HTN.out, HMN.out]; exact HR5.out⟩
          · have HN := Lib.hid (HB.out hb)
            have hb' : ¬ 256 * (i : Int) < (t.size : Int) := by omega
            clear HA HB hb
            go_wp2_with fail
            clear k0 k1 k2 kf p0 p1
            go_region_held3 (fun W => W.cell? ⟨y, 0, none⟩ = some (ptr q) ∧ W.cell? ⟨wr.heap.size, 0, none⟩ = some (.int .i64 f)) (first | exact kk | exact l1) (first
              | (go_at_call 64; refine (HL1.out.clear).mono ?_; rintro e w3 ⟨rfl, hL3⟩; obtain ⟨kk, x1, x2⟩ := HP.out _ _ _ hL3; have HS3 := Lib.hid (hL3.store 3); clear hL3))
            go_wp2_with (at_builtin; go_must (refine wpList_append_own _ rfl (.tmp 75) (.tmp 77) 62 rfl w.heap.size 61 i0 (.agg #[.int .i64 0, .int .i64 0]) 2 16 Try.underlying62 hi0 hz0 hz1 hz2 rfl (Nat.succ_pos 1) (.slice A i cc) i (cellsT T0) rfl (HO.out.owns HS3.out) ⟨w3.heap.size, 0, none⟩ 1 1 [.int .i64 f, .int .i64 3] rfl rfl (newsPg' (w3.setCell ⟨wr.heap.size, 1, none⟩ (.int .i64 3)) w3.heap.size (World.size_setCell _ _ _) (.int .i64 f) (.int .i64 3)) (by simp [Value.oneCell']) hm1 hm2 (Hsz.out _ HS3.out.fr).2 ?_; intro v1 w5 hown1 hg1 hnn; obtain ⟨g2, c2, rfl, hR⟩ := HO.out.push HS3.out hown1 hg1; have HR5 := Lib.hid (HN.out _ _ _ hR); clear hown1 hg1 hnn hR))
            go_roundg (m - (i + 1))
            case measure => have := Hi.out; omega
            case rel => exact ⟨i + 1, _, _, by have := Hi.out; omega, by go_num, rfl, by rw [HTN.out, HMN.out]; exact HR5.out⟩
        · have hlt' : ¬ (i : Int) < (m : Int) := by omega
          obtain rfl : m = i := by omega
          obtain ⟨k0, k1, k2, kf⟩ := HK.out _ hI.fr
          have hA : ∃ gt, A = some ⟨gt, 0, none⟩ := by
            rcases hI.own.2 with ⟨q1, q2⟩ | ⟨g, cap, cur, q1, -⟩
            · omega
            · injection q1 with q1 _ _
              exact ⟨g, q1⟩
          obtain ⟨gt, rfl⟩ := hA
          have HF := Lib.hid (HE.out _ _ _ hI)
          clear hI hi
          go_wp2_with fail
          go_ret
          exact ⟨rfl, HF.out⟩
end Go.Proofs.Ytonongaakieciaa

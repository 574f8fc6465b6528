/- A space: Load. -/
import Derived.Test.YtonongaakieciaaS2
import Derived.Test.YtonongaakieciaaB6
namespace Go.Proofs.Ytonongaakieciaa
open Go.RowKit
set_option linter.unusedVariables false
set_option linter.unusedSimpArgs false
set_option maxRecDepth 100000
/-- A page behind a load. -/
def pgL (t : ByteArray) (j : Nat) (p : Pg) : Pg := ⟨p.f, if 256 * j < t.size then 5 else 3⟩
/-- A table of which the pages ahead of i are loaded. -/
def ldT (tb : List Pg) (t : ByteArray) (i : Nat) : List Pg := tb.mapIdx fun j p => if j < i then pgL t j p else p
def ldO (m : St) (f : Int) (t : ByteArray) (i : Nat) : St := if 256 * i < t.size then layS (clS m f) f 0 (t.extract (256 * i) (min t.size (256 * i + 256))) else clS m f
def ldM (st : St) (tb : List Pg) (t : ByteArray) : Nat → St
  | 0 => st
  | i + 1 => ldO (ldM st tb t i) ((tb[i]?).getD ⟨0, 0⟩).f t i
theorem ldT_len (tb : List Pg) (t : ByteArray) (i : Nat) : (ldT tb t i).length = tb.length := by simp [ldT]
theorem ldT_at {tb : List Pg} {t : ByteArray} {i : Nat} {p : Pg} (h : tb[i]? = some p) : (ldT tb t i)[i]? = some p := by
  unfold ldT
  rw [List.getElem?_mapIdx, h]
  simp
theorem ldT_zero (tb : List Pg) (t : ByteArray) : ldT tb t 0 = tb := by
  unfold ldT
  refine List.ext_getElem? fun j => ?_
  rw [List.getElem?_mapIdx]
  cases tb[j]? <;> simp
theorem ldT_next {tb : List Pg} {t : ByteArray} {i : Nat} {p : Pg} (h : tb[i]? = some p) : ldT tb t (i + 1) = (ldT tb t i).set i (pgL t i p) := by
  refine List.ext_getElem? fun j => ?_
  rw [List.getElem?_set]
  have hi : i < tb.length := (List.getElem?_eq_some_iff.1 h).1
  by_cases e : i = j
  · subst e
    rw [if_pos rfl, if_pos (by rw [ldT_len]; exact hi)]
    unfold ldT
    rw [List.getElem?_mapIdx, h]
    simp
  · rw [if_neg e]
    unfold ldT
    rw [List.getElem?_mapIdx, List.getElem?_mapIdx]
    cases tb[j]? with
    | none => rfl
    | some q =>
      simp only [Option.map_some]
      by_cases hj : j < i
      · rw [if_pos (by omega), if_pos hj]
      · rw [if_neg (by omega), if_neg hj]
def ldE (x : Sp) (i : Int) (t : ByteArray) : Int := if hasP x i = false then 120 else if (tbOf x i).length * 256 < t.size then 122 else 0
def ldS (x : Sp) (i : Int) (t : ByteArray) : Sp := if ldE x i t ≠ 0 then x else ⟨ldM x.st (tbOf x i) t (tbOf x i).length, x.tb.set i.toNat (ldT (tbOf x i) t (tbOf x i).length)⟩
theorem SpAt.setT {w W : World} {s p F g : Nat} {x : Sp} (h : SpAt w s p F g x) (hf : Fr [F] w W) {st' : St} (hm : MemAt W p F st') {v : Value} {t' : List Pg} (hv : TbT W v t') (ht : t'.length ≤ 16) {k : Nat} (hk : k < x.tb.length) : SpAt (W.setCell ⟨g, k, none⟩ v) s p F g ⟨st', x.tb.set k t'⟩ := by
  obtain ⟨e1, e2, e3, e4, e5, e6⟩ := h.ne
  obtain ⟨-, -, ⟨c3, h3⟩, -⟩ := h.blks
  obtain ⟨⟨cap, hb, hc⟩, -, ⟨cs, hg, hr⟩, n1, n2, n3⟩ := h
  have hg1 := hg.fr hf (by simp; omega)
  have hfg : Fr [g] W (W.setCell ⟨g, k, none⟩ v) := (Fr.refl [g] W).setCell (p := ⟨g, k, none⟩) (.inl (by simp)) v
  have hng : NoT 61 W [g] := hg1.not (by decide)
  refine ⟨⟨cap, by rw [List.length_set]; exact (hb.fr hf (by simp; omega)).fr hfg (by simp; omega), by rw [List.length_set]; exact hc⟩, hm.to hfg (by simp; omega) (by simp; omega), ⟨_, hg1.set_ k v, fun i t hi => ?_⟩, by rw [List.length_set]; exact n1, by rw [List.length_set]; exact n2, fun i t hi => ?_⟩
  · rw [List.getElem?_set] at hi
    have hkc : k < cs.size := by
      obtain ⟨v0, e0, -⟩ := hr k _ (List.getElem?_eq_getElem hk)
      exact (Array.getElem?_eq_some_iff.1 e0).1
    rw [Array.getElem?_setIfInBounds]
    by_cases e : k = i
    · subst e
      rw [if_pos rfl, if_pos hk] at hi
      injection hi with hi
      subst hi
      exact ⟨v, by rw [if_pos rfl, if_pos hkc], hv.fr hfg hng⟩
    · rw [if_neg e] at hi
      obtain ⟨v0, e0, hT⟩ := hr i t hi
      exact ⟨v0, by rw [if_neg e]; exact e0, (hT.fr hf (h3.not (by decide))).fr hfg hng⟩
  · rw [List.getElem?_set] at hi
    split at hi
    · first
      | (injection hi with hi
         subst hi
         exact ht)
      | (split at hi
         · injection hi with hi
           subst hi
           exact ht
         · cases hi)
    · exact n3 i t hi
section
variable (s : ByteArray) (a b : Nat) (ia ib : Int) (ha : ia = a) (hb : ib = b) (wx : World)
include ha hb
theorem sl_lh (h : a ≤ b) (h2 : b ≤ s.size) : (Instr.slice 9 (.string s) (some (.int .i64 ia)) (some (.int .i64 ib)) none).run Try.prog wx = .ok (.string (s.extract a b)) wx := by
  subst ha; subst hb
  rw [run_slice_string (P := Try.prog) wx 9 s .i64 .i64 _ _ Try.underlying9 (by omega) (by omega) (by omega)]
  simp
end
theorem tl_ne {t : ByteArray} (h : ¬ t.size = 0) : ¬ t.toList = [] := by
  intro e
  apply h
  have : t.data.toList = [] := by rw [← e, ByteArray.toList_eq]
  show t.data.size = 0
  rw [← Array.length_toList, this]
  rfl
theorem tl_em {t : ByteArray} (h : ¬ t.size = 0) : t.toList.isEmpty = false := by
  cases h1 : t.toList with
  | nil => exact absurd h1 (tl_ne h)
  | cons a l => rfl
/-- Under way. -/
structure LdI (w wr : World) (p F gt : Nat) (T : List Pg) (m : St) : Prop where
  fr : Fr [F] w wr
  pb : PB wr gt T
  mem : MemAt wr p F m
  gt0 : w.heap.size ≤ gt
theorem LdI.store {w wr : World} {p F gt : Nat} {T : List Pg} {m : St} (h : LdI w wr p F gt T m) (hpF : p < w.heap.size ∧ F < w.heap.size) {i : Nat} {q : Pg} (hi : T[i]? = some q) (r : Int) : LdI w (wr.setCell ⟨gt, i * 2 + 1, none⟩ (.int .i64 r)) p F gt (T.set i ⟨q.f, r⟩) m := by
  have hg := h.gt0
  have hf : Fr [gt] wr (wr.setCell ⟨gt, i * 2 + 1, none⟩ (.int .i64 r)) := (Fr.refl [gt] wr).setCell (p := ⟨gt, i * 2 + 1, none⟩) (.inl (by simp)) _
  exact ⟨h.fr.step hf (fun k hk => by simp at hk; subst hk; exact .inr hg), h.pb.set_ hi r, h.mem.to hf (by simp; omega) (by simp; omega), hg⟩
theorem LdI.call {w wr w' : World} {p F gt : Nat} {T : List Pg} {m m' : St} (h : LdI w wr p F gt T m) (hF : F < w.heap.size) (hm : MemAt w' p F m') (hf : Fr [F] wr w') : LdI w w' p F gt T m' := by
  have hg := h.gt0
  exact ⟨h.fr.trans hf, h.pb.fr hf (by simp; omega), hm, hg⟩
theorem LdI.drew {w wr : World} {p F gt : Nat} {T : List Pg} {m : St} (h : LdI w wr p F gt T m) : LdI w wr.drew p F gt T m := ⟨h.fr.drew, h.pb.fr (Fr.refl [] wr).drew (by simp), h.mem.to (Fr.refl [] wr).drew (by simp) (by simp), h.gt0⟩
theorem Clear_at {w wr : World} {p F gt : Nat} {T : List Pg} {m : St} (h : LdI w wr p F gt T m) (hF : F < w.heap.size) (f : Int) : Calls Try.prog 60 #[ptr p, .int .i64 f] wr fun e w' => e = .returned (.int .i64 (clE m.n f)) ∧ LdI w w' p F gt T (clS m f) ∧ Fr [F] wr w' :=
  (Clear_any p F m wr f h.mem).mono fun e w' ⟨he, hm, hf⟩ => ⟨he, h.call hF hm hf, hf⟩
theorem Lay_at {w wr : World} {p F gt : Nat} {T : List Pg} {m : St} (h : LdI w wr p F gt T m) (hF : F < w.heap.size) (f a : Int) (s : ByteArray) (hs : s.size ≤ 1152921504606846976) : Calls Try.prog 31 #[ptr p, .int .i64 f, .int .i64 a, .string s] wr fun e w' => e = .returned (.int .i64 (layE m.n f a s)) ∧ LdI w w' p F gt T (layS m f a s) ∧ Fr [F] wr w' :=
  (Lay_any p F m wr f a s h.mem hs).mono fun e w' ⟨he, hm, hf⟩ => ⟨he, h.call hF hm hf, hf⟩
set_option maxHeartbeats 2000000 in
theorem SLoad_any (s p F g : Nat) (x : Sp) (i : Int) (t : ByteArray) (w : World) (h : SpAt w s p F g x) (hn1 : ∀ (i : Nat) (t : List Pg), x.tb[i]? = some t → 1 ≤ t.length) : Calls Try.prog 17 #[ptr s, .int .i64 i, .string t] w fun e w' => e = .returned (.int .i64 (ldE x i t)) ∧ SpT s p F g w (ldS x i t) w' := by
  have HI := Lib.hid (is_any s p F g x i w h)
  obtain ⟨cap, c0, c1⟩ := h.cells
  have HR : Hid (SpT s p F g w x w) := Lib.hid ⟨h, Fr.refl _ _⟩
  cases hp : hasP x i with
  | false =>
    have E1 : ldE x i t = 120 := by unfold ldE; rw [if_pos hp]
    have E2 : ldS x i t = x := by unfold ldS; rw [E1]; rfl
    rw [E1, E2]
    rw [hp] at HI
    clear h E1 E2 hp
    go_enter Try.func17, Try.ntmps17
    go_wp2_with (go_at_call 58; refine HI.out.mono ?_; rintro e w1 ⟨rfl, rfl⟩)
    go_ret
    exact ⟨rfl, HR.out⟩
  | true =>
    rw [hp] at HI
    obtain ⟨k, tb, rfl, hk⟩ := hasP_some hp
    have hkn : k < x.tb.length := (List.getElem?_eq_some_iff.1 hk).1
    obtain ⟨-, hto⟩ := tbOf_some hk
    obtain ⟨A, c, b, c2, -, -, hTb, hbl, hTT⟩ := h.table hk
    have h1 := hn1 k tb hk
    have h16 := h.n3 k tb hk
    have HC := Lib.hid (cloneP_any tb A c w hTT h1 h16)
    have hk' : (k : Int) < (x.tb.length : Int) := by omega
    have hk0 : (0 : Int) ≤ (k : Int) := by omega
    have hwl : IntKind.i64.wrap ((tb.length : Int) * 256) = (tb.length : Int) * 256 := IntWalk.i64_in _ (by omega)
    by_cases hs : tb.length * 256 < t.size
    · have E1 : ldE x (k : Int) t = 122 := by unfold ldE; rw [if_neg (by rw [hp]; simp), hto, if_pos hs]
      have E2 : ldS x (k : Int) t = x := by unfold ldS; rw [E1]; rfl
      rw [E1, E2]
      have hs' : (tb.length : Int) * 256 < (t.size : Int) := by omega
      have HR2 := Lib.hid (fun W (hf : Fr [] w W) => (show SpT s p F g w x W from ⟨h.to hf, hf.mono (fun k hk => by cases hk)⟩))
      clear h E1 E2 hp hto hTb hTT hk hkn hs HR
      generalize x.tb.length = N at *
      generalize tb.length = m at *
      go_enter Try.func17, Try.ntmps17
      go_wp2_with (first
        | (go_at_call 58; refine HI.out.mono ?_; rintro e w1 ⟨rfl, rfl⟩)
        | (go_at_call 59; refine HC.out.mono ?_; rintro e w2 ⟨g', cap', rfl, q1, q2, q3, q4, q5⟩; have HF := Lib.hid (HR2.out _ q4); clear q1 q4))
      go_ret
      exact ⟨rfl, HF.out⟩
    · have E1 : ldE x (k : Int) t = 0 := by unfold ldE; rw [if_neg (by rw [hp]; simp), hto, if_neg hs]
      have E2 : ldS x (k : Int) t = ⟨ldM x.st tb t tb.length, x.tb.set k (ldT tb t tb.length)⟩ := by unfold ldS; rw [E1, hto]; rfl
      rw [E1, E2]
      have hs' : ¬ (tb.length : Int) * 256 < (t.size : Int) := by omega
      have hst : t.size ≤ 4096 := by omega
      obtain ⟨n1, n2, n3, n4, n5, n6⟩ := h.ne
      obtain ⟨l1, l2, l3, l4⟩ := h.lt
      have hmem := h.mem
      have HK := Lib.hid (fun W (hf : Fr [F] w W) => (show W.cell? ⟨s, 0, none⟩ = some (ptr p) ∧ W.cell? ⟨s, 1, none⟩ = some (.slice (some ⟨g, 0, none⟩) x.tb.length cap) ∧ W.cell? ⟨g, k, none⟩ = some (.slice A tb.length c) ∧ W.frozen? ⟨g, k, none⟩ = false from ⟨hf.cell_some c0 (by simp; omega), hf.cell_some c1 (by simp; omega), hf.cell_some c2 (by simp; omega), by
        obtain ⟨-, -, -, ⟨c4, h4⟩⟩ := h.blks
        exact (h4.fr hf (by simp; omega)).frozen k⟩))
      have HE := Lib.hid (fun W gt cap' (hI : LdI w W p F gt (ldT tb t tb.length) (ldM x.st tb t tb.length)) (q2 : tb.length ≤ cap') (q3 : cap' ≤ maxLen) => (show SpT s p F g w ⟨ldM x.st tb t tb.length, x.tb.set k (ldT tb t tb.length)⟩ (W.setCell ⟨g, k, none⟩ (.slice (some ⟨gt, 0, none⟩) tb.length cap')) from by
        have hv := hI.pb.tb (cap := cap') (by rw [ldT_len]; exact q2) q3
        rw [ldT_len] at hv
        exact ⟨h.setT hI.fr hI.mem hv (by rw [ldT_len]; exact h16) hkn, (hI.fr.mono (fun j hj _ => by simp at hj; simp [hj])).setCell (p := ⟨g, k, none⟩) (.inl (by simp)) _⟩))
      have HT := Lib.hid (fun i (hi : i < tb.length) => (show ∃ q, tb[i]? = some q ∧ (ldT tb t i)[i]? = some q ∧ ((tb[i]?).getD ⟨0, 0⟩).f = q.f from ⟨_, List.getElem?_eq_getElem hi, ldT_at (List.getElem?_eq_getElem hi), by rw [List.getElem?_eq_getElem hi]; rfl⟩))
      have Hlf := Lib.hid l3
      have Hlp := Lib.hid (And.intro l2 l3)
      clear h E1 E2 hp hto hTb hTT hk hs HR hkn n1 n2 n3 n4 n5 n6 l1 l2 l3 l4
      generalize x.tb.length = N at *
      generalize hm : tb.length = m at *
      clear hm
      go_enter Try.func17, Try.ntmps17
      go_wp2_with (first
        | (go_at_call 58; refine HI.out.mono ?_; rintro e w1 ⟨rfl, rfl⟩)
        | (go_at_call 59; refine HC.out.mono ?_; rintro e w2 ⟨gt, cap', rfl, q1, q2, q3, q4, q5⟩; have HS : Hid (LdI w w2 p F gt (ldT tb t 0) (ldM x.st tb t 0)) := Lib.hid ⟨q4.mono (fun k hk => by cases hk), by rw [ldT_zero]; exact q1, hmem.to q4 (by simp) (by simp), q5⟩; clear q1 q4))
      clear hmem
      go_loopg [31] m (fun gg vi wr => ∃ (i : Nat), i + gg = m ∧ vi = .int .i64 (i : Int) ∧ LdI w wr p F gt (ldT tb t i) (ldM x.st tb t i))
      case atStart => exact ⟨0, by omega, rfl, HS.out⟩
      case round =>
        obtain ⟨i, hi, rfl, hI⟩ := hrel
        have Hi := Lib.hid hi
        clear HS
        by_cases hlt : i < m
        · have hlt' : (i : Int) < (m : Int) := by omega
          have hi0 : (0 : Int) ≤ (i : Int) := by omega
          have hwi : IntKind.i64.wrap ((i : Int) + 1) = (i : Int) + 1 := IntWalk.i64_in _ (by omega)
          obtain ⟨q, ht1, ht2, ht3⟩ := HT.out i hlt
          obtain ⟨f, r⟩ := q
          have HA : Hid (256 * i < t.size → ∀ W, LdI w W p F gt (((ldT tb t i).set i ⟨f, 3⟩).set i ⟨f, 5⟩) (layS (clS (ldM x.st tb t i) f) f 0 (t.extract (256 * i) (min t.size (256 * i + 256)))) → LdI w W p F gt (ldT tb t (i + 1)) (ldM x.st tb t (i + 1))) := Lib.hid fun hb W hL => by
            rw [ldT_next ht1]
            have e1 : pgL t i ⟨f, r⟩ = ⟨f, 5⟩ := by unfold pgL; rw [if_pos hb]
            have e2 : ldM x.st tb t (i + 1) = layS (clS (ldM x.st tb t i) f) f 0 (t.extract (256 * i) (min t.size (256 * i + 256))) := by
              show ldO _ _ t i = _
              rw [ht3]
              unfold ldO
              rw [if_pos hb]
            rw [e1, e2]
            rw [List.set_set] at hL
            exact hL
          have HB : Hid (¬ 256 * i < t.size → ∀ W, LdI w W p F gt ((ldT tb t i).set i ⟨f, 3⟩) (clS (ldM x.st tb t i) f) → LdI w W p F gt (ldT tb t (i + 1)) (ldM x.st tb t (i + 1))) := Lib.hid fun hb W hL => by
            rw [ldT_next ht1]
            have e1 : pgL t i ⟨f, r⟩ = ⟨f, 3⟩ := by unfold pgL; rw [if_neg hb]
            have e2 : ldM x.st tb t (i + 1) = clS (ldM x.st tb t i) f := by
              show ldO _ _ t i = _
              rw [ht3]
              unfold ldO
              rw [if_neg hb]
            rw [e1, e2]
            exact hL
          generalize hTN : ldT tb t (i + 1) = TN at *
          generalize hMN : ldM x.st tb t (i + 1) = MN at *
          have HTN := Lib.hid hTN
          have HMN := Lib.hid hMN
          clear hTN hMN
          generalize ldT tb t i = T0 at *
          generalize ldM x.st tb t i = m0 at *
          have hwm : IntKind.i64.wrap ((i : Int) * 256) = (i : Int) * 256 := IntWalk.i64_in _ (by omega)
          obtain ⟨k0, k1, k2, kf⟩ := HK.out _ hI.drew.fr
          obtain ⟨p0, p1⟩ := hI.drew.pb.cells ht2
          have l0 := And.intro k0 p0
          have HIx := Lib.hid hI.drew
          have Ht2 := Lib.hid ht2
          have HP := Lib.hid (fun W m' (hL : LdI w W p F gt T0 m') => (show (W.cell? ⟨s, 0, none⟩ = some (ptr p) ∧ W.cell? ⟨gt, i * 2, none⟩ = some (.int .i64 f)) ∧ W.cell? ⟨gt, i * 2 + 1, none⟩ = some (.int .i64 r) ∧ W.frozen? ⟨gt, i * 2 + 1, none⟩ = false ∧ LdI w (W.setCell ⟨gt, i * 2 + 1, none⟩ (.int .i64 3)) p F gt (T0.set i ⟨f, 3⟩) m' from ⟨⟨(HK.out _ hL.fr).1, (hL.pb.cells Ht2.out).1⟩, (hL.pb.cells Ht2.out).2, hL.pb.frozen _, hL.store Hlp.out Ht2.out 3⟩))
          have HP3 := Lib.hid (fun W m' (hL : LdI w W p F gt (T0.set i ⟨f, 3⟩) m') => (show (W.cell? ⟨s, 0, none⟩ = some (ptr p) ∧ W.cell? ⟨gt, i * 2, none⟩ = some (.int .i64 f)) ∧ W.cell? ⟨gt, i * 2 + 1, none⟩ = some (.int .i64 3) ∧ W.frozen? ⟨gt, i * 2 + 1, none⟩ = false ∧ LdI w (W.setCell ⟨gt, i * 2 + 1, none⟩ (.int .i64 5)) p F gt ((T0.set i ⟨f, 3⟩).set i ⟨f, 5⟩) m' from by
            have h3 : (T0.set i ⟨f, 3⟩)[i]? = some ⟨f, 3⟩ := by
              rw [List.getElem?_set, if_pos rfl, if_pos (List.getElem?_eq_some_iff.1 Ht2.out).1]
            exact ⟨⟨(HK.out _ hL.fr).1, (hL.pb.cells h3).1⟩, (hL.pb.cells h3).2, hL.pb.frozen _, hL.store Hlp.out h3 5⟩))
          clear hI hi ht1 ht2 ht3 k1 k2 kf
          by_cases hb : 256 * i < t.size
          · have HN := Lib.hid (HA.out hb)
            obtain ⟨E, hE⟩ : ∃ E : Nat, min t.size (256 * i + 256) = E := ⟨_, rfl⟩
            rw [hE] at HN
            have hEl : 256 * i < E := by omega
            have hEs : E ≤ t.size := by omega
            have hm1 : min (t.size : Int) ((i : Int) * 256) = (i : Int) * 256 := by omega
            have hw2 : IntKind.i64.wrap ((i : Int) * 256 + 256) = (i : Int) * 256 + 256 := IntWalk.i64_in _ (by omega)
            have hm2 : min (t.size : Int) ((i : Int) * 256 + 256) = (E : Int) := by omega
            have hsl := fun wx => sl_lh t (256 * i) E ((i : Int) * 256) (E : Int) (by omega) rfl wx (by omega) hEs
            have hos : (t.extract (256 * i) E).size = E - 256 * i := by rw [ByteArray.size_extract]; omega
            have hon : ¬ (t.extract (256 * i) E).size = 0 := by omega
            have HLy := Lib.hid (fun W m' T' (hL : LdI w W p F gt T' m') => Lay_at hL Hlf.out f 0 (t.extract (256 * i) E) (by omega))
            generalize t.extract (256 * i) E = own at *
            have ho1 := tl_ne hon
            have ho2 := tl_em hon
            clear HA HB hE hEl hEs hos hb
            go_wp2_with fail
            go_region_held3 (fun W => W.cell? ⟨s, 0, none⟩ = some (ptr p) ∧ W.cell? ⟨gt, i * 2, none⟩ = some (.int .i64 f)) (first | exact kk | exact l0) (first
              | (go_at_call 60; refine (Clear_at HIx.out Hlf.out f).mono ?_; rintro e w3 ⟨rfl, hL3, -⟩; obtain ⟨kk, x1, x2, hS3⟩ := HP.out _ _ hL3; have HS3 := Lib.hid hS3.drew; clear hS3 hL3))
            have l3 := (HP3.out _ _ HS3.out).1
            clear kk l0 p0 p1
            go_wp2_with fail
            go_region_held3 (fun W => W.cell? ⟨s, 0, none⟩ = some (ptr p) ∧ W.cell? ⟨gt, i * 2, none⟩ = some (.int .i64 f)) (first | exact kk | exact l3) (first
              | (go_at_call 31; refine (HLy.out _ _ _ HS3.out).mono ?_; rintro e w4 ⟨rfl, hL4, -⟩; obtain ⟨kk, x1, x2, hS4⟩ := HP3.out _ _ hL4; have HS4 := Lib.hid (HN.out _ hS4); clear hS4 hL4))
            go_wp2_with fail
            go_roundg (m - (i + 1))
            case measure => have := Hi.out; omega
            case rel => exact ⟨i + 1, by have := Hi.out; omega, by go_num, by rw [HTN.out, HMN.out]; exact HS4.out⟩
          · have HN := Lib.hid (HB.out hb)
            have hm1 : min (t.size : Int) ((i : Int) * 256) = (t.size : Int) := by omega
            have hw2 : IntKind.i64.wrap ((t.size : Int) + 256) = (t.size : Int) + 256 := IntWalk.i64_in _ (by omega)
            have hm2 : min (t.size : Int) ((t.size : Int) + 256) = (t.size : Int) := by omega
            have hemp : t.extract t.size t.size = ⟨#[]⟩ := by
              have : (t.extract t.size t.size).size = 0 := by rw [ByteArray.size_extract]; omega
              cases hx : t.extract t.size t.size with
              | mk a =>
                rw [hx] at this
                have h2 : a.size = 0 := this
                rw [Array.eq_empty_of_size_eq_zero h2]
            have hsl := fun wx => (sl_lh t t.size t.size (t.size : Int) (t.size : Int) rfl rfl wx (Nat.le_refl _) (Nat.le_refl _)).trans (by rw [hemp])
            clear HA HB hb hemp
            go_wp2_with fail
            go_region_held3 (fun W => W.cell? ⟨s, 0, none⟩ = some (ptr p) ∧ W.cell? ⟨gt, i * 2, none⟩ = some (.int .i64 f)) (first | exact kk | exact l0) (first
              | (go_at_call 60; refine (Clear_at HIx.out Hlf.out f).mono ?_; rintro e w3 ⟨rfl, hL3, -⟩; obtain ⟨kk, x1, x2, hS3⟩ := HP.out _ _ hL3; have HS3 := Lib.hid (HN.out _ hS3); clear hS3 hL3))
            go_wp2_with fail
            go_roundg (m - (i + 1))
            case measure => have := Hi.out; omega
            case rel => exact ⟨i + 1, by have := Hi.out; omega, by go_num, by rw [HTN.out, HMN.out]; exact HS3.out⟩
        · have hlt' : ¬ (i : Int) < (m : Int) := by omega
          obtain rfl : m = i := by omega
          obtain ⟨k0, k1, k2, kf⟩ := HK.out _ hI.fr
          have HF := Lib.hid (HE.out _ _ _ hI q2 q3)
          clear hI hi
          go_wp2_with fail
          go_ret
          exact ⟨rfl, HF.out⟩
end Go.Proofs.Ytonongaakieciaa

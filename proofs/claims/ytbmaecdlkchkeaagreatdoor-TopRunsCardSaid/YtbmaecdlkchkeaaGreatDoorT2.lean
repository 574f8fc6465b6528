/- The machine: New, Place, Waits, Register, Answer. A space's partitions: what a load leaves; what is written through one table stays in its frames (no program). A machine's step in a space; what a program keeps. Two spaces into which one program is loaded: their tables say the same (no program in sight). Two spaces, and a machine in each, in one world: what a call on the one leaves of the other. -/
import Derived.Test.YtbmaecdlkchkeaaGreatDoorV2
import Derived.Deep.LoopGhost
import Derived.Test.YtbmaecdlkchkeaaGreatDoorS13
import Derived.Test.YtbmaecdlkchkeaaGreatDoorB6
import Derived.Test.YtbmaecdlkchkeaaGreatDoorTR
namespace Go.Proofs.YtbmaecdlkchkeaaGreatDoor
open Go.RowKit
set_option linter.unusedVariables false
set_option linter.unusedSimpArgs false
set_option maxRecDepth 100000
def vm0 : Vm := ⟨fun _ => 0, 0, false⟩
set_option maxHeartbeats 2000000 in
theorem vNew_any (w : World) : Calls Tryz.prog 10 #[] w fun e w' => e = .returned (ptr w.heap.size) ∧ VmAt w' w.heap.size vm0 ∧ Fr [] w w' := by
  have HF := Lib.hid (fun cs (h : cs = vcells vm0) => (show VmAt (w.alloc (.cells cs 98)) w.heap.size vm0 ∧ Fr [] w (w.alloc (.cells cs 98)) from ⟨⟨h ▸ Blk.new w 98 _, fun k => (show (0 : Int) ≤ 0 ∧ (0 : Int) < 4294967296 from by decide), (show (0 : Int) ≤ 0 ∧ (0 : Int) < 4294967296 from by decide)⟩, (Fr.refl [] w).alloc _⟩))
  go_enter Tryz.func10, Tryz.ntmps10
  go_wp2
  go_ret
  exact ⟨rfl, HF.out _ rfl⟩
section
variable {w : World} {v : Nat} {x : Vm}
theorem vPlace_any (h : VmAt w v x) : Calls Tryz.prog 14 #[ptr v] w fun e w' => e = .returned (.int .i64 x.pl) ∧ w = w' := by
  have c := h.place
  have k : 0 ≤ x.pl ∧ x.pl < 4294967296 := h.p
  clear h
  go_enter Tryz.func14, Tryz.ntmps14
  go_wp2
  go_ret
  exact ⟨rfl, rfl⟩
theorem vReg_in (h : VmAt w v x) (k : Nat) (hk : k < 16) : Calls Tryz.prog 16 #[ptr v, .int .i64 (k : Int)] w fun e w' => e = .returned (.int .i64 (x.r k)) ∧ w = w' := by
  have c := h.reg hk
  have kb : 0 ≤ x.r k ∧ x.r k < 4294967296 := h.r k
  have h1 : ¬ (k : Int) < 0 := by omega
  have h2 : ¬ (16 : Int) ≤ (k : Int) := by omega
  clear h
  go_enter Tryz.func16, Tryz.ntmps16
  go_wp2
  go_ret
  exact ⟨rfl, rfl⟩
theorem vReg_out (k : Int) (hk : k < 0 ∨ 16 ≤ k) : Calls Tryz.prog 16 #[ptr v, .int .i64 k] w fun e w' => e = .returned (.int .i64 0) ∧ w = w' := by
  by_cases h1 : k < 0
  · clear hk
    go_enter Tryz.func16, Tryz.ntmps16
    go_wp2
    go_ret
    exact ⟨rfl, rfl⟩
  · have h2 : (16 : Int) ≤ k := by omega
    clear hk
    go_enter Tryz.func16, Tryz.ntmps16
    go_wp2
    go_ret
    exact ⟨rfl, rfl⟩
/-- An answer: the first three registers. -/
def ansP (x : Vm) (l : Nat → Int) : Nat → Vm
  | 0 => x
  | j + 1 => putR (ansP x l j) j (l j % 4294967296)
def ansV (x : Vm) (l : Nat → Int) : Vm := putW (ansP x l 3) false
theorem vAnswer_no (h : VmAt w v x) (A : Option Addr) (n cap : Nat) (hn : x.wt = false ∨ n ≠ 3) : Calls Tryz.prog 15 #[ptr v, .slice A n cap] w fun e w' => e = .returned (.int .i64 100) ∧ w = w' := by
  have c := h.waits
  clear h
  cases hw : x.wt with
  | false =>
    rw [hw] at c
    clear hn hw
    go_enter Tryz.func15, Tryz.ntmps15
    go_wp2
    go_ret
    exact ⟨rfl, rfl⟩
  | true =>
    rw [hw] at c hn
    have h3 : ¬ (n : Int) = 3 := by simp at hn; omega
    have hb : ((n : Int) == 3) = false := beq_eq_false_iff_ne.2 h3
    have hb2 : ((n : Int) != 3) = true := by simpa using h3
    clear hn hw
    go_enter Tryz.func15, Tryz.ntmps15
    go_wp2
    go_ret
    exact ⟨rfl, rfl⟩
theorem vAnswer_yes (h : VmAt w v x) (b off cap : Nat) (l : Nat → Int) (hw : x.wt = true) (hl : ∀ j, j < 3 → w.cell? ⟨b, off + j, none⟩ = some (.int .i64 (l j))) (hbv : b ≠ v) : Calls Tryz.prog 15 #[ptr v, .slice (some ⟨b, off, none⟩) 3 cap] w fun e w' => e = .returned (.int .i64 0) ∧ VmAt w' v (ansV x l) ∧ Fr [v] w w' := by
  have c := h.waits
  rw [hw] at c
  have Hh := Lib.hid h
  have Hl := Lib.hid hl
  have hvl := h.lt
  clear h hl hw
  go_enter Tryz.func15, Tryz.ntmps15
  go_wp2
  go_loopg [19] 3 (fun gg i wr => ∃ j : Nat, j + gg = 3 ∧ i = .int .i64 (j : Int) ∧ VmAt wr v (ansP x l j) ∧ Fr [v] w wr)
  case atStart => exact ⟨0, by omega, rfl, Hh.out, Fr.refl _ _⟩
  case round =>
    obtain ⟨j, hj, rfl, hv, hf⟩ := hrel
    have Hj := Lib.hid hj
    have Hv := Lib.hid hv
    have Hf := Lib.hid hf
    by_cases hlt : j < 3
    · have hlt' : (j : Int) < 3 := by omega
      have hj0 : (0 : Int) ≤ (j : Int) := by omega
      have hj16 : (j : Int) < 16 := by omega
      have hwk : IntKind.i64.wrap ((j : Int) + 1) = (j : Int) + 1 := IntWalk.i64_in _ (by omega)
      have k0 := hf.cell_some (Hl.out j hlt) (by simpa using hbv)
      have k1 := hv.reg (k := j) (by omega)
      have kf := hv.frozen
      have HN := Lib.hid (hv.setR (k := j) (by omega) (n := l j % 4294967296) (by unfold u32b; omega))
      have HG := Lib.hid (hf.setCell (p := ⟨v, j, none⟩) (.inl (by simp)) (.int .u32 (l j % 4294967296)))
      clear hj hv hf
      go_wp2
      go_roundg (3 - (j + 1))
      case measure => have := Hj.out; omega
      case rel => exact ⟨j + 1, by have := Hj.out; omega, by go_num, HN.out, HG.out⟩
    · have hlt' : ¬ (j : Int) < 3 := by omega
      obtain rfl : j = 3 := by omega
      have k1 := hv.waits
      have kf := hv.frozen
      have HN := Lib.hid (hv.setW false)
      have HG := Lib.hid (hf.setCell (p := ⟨v, 17, none⟩) (.inl (by simp)) (.bool false))
      clear hj hv hf
      go_wp2
      go_ret
      exact ⟨rfl, HN.out, HG.out⟩
end
end Go.Proofs.YtbmaecdlkchkeaaGreatDoor
namespace Go.Proofs.YtbmaecdlkchkeaaGreatDoor
open Go.RowKit
set_option linter.unusedVariables false
set_option linter.unusedSimpArgs false
set_option maxRecDepth 100000
theorem ldO_at {m : St} {f : Int} (hf : 0 ≤ f ∧ f < m.n) {t : ByteArray} {i o : Nat} (ho : o < 256) : (ldO m f t i).b (f.toNat * 256 + o) = byA t (256 * i + o) := by
  unfold ldO
  split
  · next h =>
    have hn : (clS m f).n = m.n := by unfold clS; split <;> rfl
    have hz : (t.extract (256 * i) (min t.size (256 * i + 256))).size = min t.size (256 * i + 256) - 256 * i := by rw [ByteArray.size_extract]; omega
    rw [layS_at (m := clS m f) (by rw [hn]; exact hf) (by omega) ho]
    split
    · next h2 =>
      have e := ext_at t (256 * i) (min t.size (256 * i + 256)) o
      rw [if_pos (by omega)] at e
      unfold byA
      rw [e]
    · next h2 => rw [clS_at hf ho, byA_out (by omega)]
  · next h => rw [clS_at hf ho, byA_out (by omega)]
theorem ldO_far {m : St} {f : Int} {t : ByteArray} {i k : Nat} (h : k < f.toNat * 256 ∨ f.toNat * 256 + 256 ≤ k) : (ldO m f t i).b k = m.b k := by
  unfold ldO
  split
  · rw [layS_far h, clS_far h]
  · rw [clS_far h]
/-- What lies in the frames of a table that was loaded. -/
theorem ldM_at {st : St} {tb : List Pg} (ha : apart tb) (hp : ∀ p ∈ tb, 0 ≤ p.f ∧ p.f < st.n) (t : ByteArray) : ∀ k, k ≤ tb.length → ∀ q, q < 256 * k → (ldM st tb t k).b (loc tb (q : Int)) = byA t q := by
  intro k
  induction k with
  | zero => intro _ q h; omega
  | succ k ih =>
    intro hk q hq
    obtain ⟨p, hpk⟩ : ∃ p, tb[k]? = some p := ⟨_, List.getElem?_eq_getElem (by omega)⟩
    have hm := hp p (List.mem_of_getElem? hpk)
    have hn := ldM_n st tb t k
    show (ldO (ldM st tb t k) ((tb[k]?).getD ⟨0, 0⟩).f t k).b _ = _
    rw [hpk]
    simp only [Option.getD_some]
    by_cases h : q < 256 * k
    · obtain ⟨p', hp'⟩ : ∃ p, tb[q / 256]? = some p := ⟨_, List.getElem?_eq_getElem (by omega)⟩
      have hm' := hp p' (List.mem_of_getElem? hp')
      have hne : p'.f ≠ p.f := fun e => by have := ha _ _ _ _ hp' hpk e; omega
      rw [loc_at hp', ldO_far (by omega), ← loc_at hp']
      exact ih (by omega) q h
    · have hq' : q / 256 = k := by omega
      rw [loc_at (p := p) (by rw [hq']; exact hpk), ldO_at (by rw [hn]; exact hm) (by omega)]
      congr 1
      omega
/-- What lies elsewhere. -/
theorem ldM_far {st : St} {tb : List Pg} (t : ByteArray) {j : Nat} (hj : ∀ p ∈ tb, j < p.f.toNat * 256 ∨ p.f.toNat * 256 + 256 ≤ j) : ∀ k, k ≤ tb.length → (ldM st tb t k).b j = st.b j := by
  intro k
  induction k with
  | zero => intro _; rfl
  | succ k ih =>
    intro hk
    obtain ⟨p, hpk⟩ : ∃ p, tb[k]? = some p := ⟨_, List.getElem?_eq_getElem (by omega)⟩
    show (ldO (ldM st tb t k) ((tb[k]?).getD ⟨0, 0⟩).f t k).b _ = _
    rw [hpk]
    simp only [Option.getD_some]
    rw [ldO_far (hj p (List.mem_of_getElem? hpk))]
    exact ih (by omega)
section
variable {x : Sp} (h : SpOk x)
include h
theorem SpOk.ch1q {k : Nat} {t : List Pg} (hk : x.tb[k]? = some t) {q : Nat} (hq : q < 256 * t.length) : Go.Proofs.YtbmaecdlkchkeaaGreatDoor.ch1 t 1 (q : Int) = 0 := by
  obtain ⟨p, hp⟩ : ∃ p, t[q / 256]? = some p := ⟨_, List.getElem?_eq_getElem (by omega)⟩
  have hm := h.pg k t hk p (List.mem_of_getElem? hp)
  rw [ch1_at hp, if_neg (by omega)]
  rcases hm.2 with hr | hr
  · rw [hr, if_neg bits_31]
  · rw [hr, if_neg bits_51]
/-- What is written through one table leaves the other partitions. -/
theorem SpOk.others {st' : St} {i k : Nat} {t t' : List Pg} (hi : x.tb[i]? = some t) (hk : x.tb[k]? = some t') (hik : k ≠ i) (hw : Wr t x.st st') {q : Nat} (hq : q < 256 * t'.length) : st'.b (loc t' (q : Int)) = x.st.b (loc t' (q : Int)) := by
  apply Classical.byContradiction
  intro hne
  obtain ⟨q', hq', hl, hc⟩ := hw.b _ hne
  obtain ⟨r, p, hr, hr2, hp, f0, -, e⟩ := ch1_in hc
  obtain ⟨r', p', hr', hr2', hp', f0', -, e'⟩ := ch1_in (h.ch1q hk hq)
  rw [e, e'] at hl
  exact hik (h.ap k t' _ p' i t _ p hk hp' hi hp (by omega)).1
/-- What may only be read and run stays. -/
theorem SpOk.kept {st' : St} {i : Nat} {t : List Pg} (hi : x.tb[i]? = some t) (hw : Wr t x.st st') {q : Nat} (hq : q < 256 * t.length) {p : Pg} (hp : t[q / 256]? = some p) (hr : p.r = 5) : st'.b (loc t (q : Int)) = x.st.b (loc t (q : Int)) := by
  apply Classical.byContradiction
  intro hne
  obtain ⟨q', hq', hl, hc⟩ := hw.b _ hne
  have e := loc_inj (h.apart hi) hc (h.ch1q hi hq) hl
  have e2 : q' = q := by omega
  subst e2
  rw [ch1_at hp, if_neg (by have := (h.pg i t hi p (List.mem_of_getElem? hp)).1; omega), hr] at hc
  revert hc
  decide
end
end Go.Proofs.YtbmaecdlkchkeaaGreatDoor
namespace Go.Proofs.YtbmaecdlkchkeaaGreatDoor
open Go.RowKit
set_option linter.unusedVariables false
set_option linter.unusedSimpArgs false
set_option maxRecDepth 100000
/-- The memory turns, and a machine. -/
theorem SpAt.turnV {w w' : World} {s p F g v : Nat} {x : Sp} {cs : Array Value} (h : SpAt w s p F g x) (hv : Blk w v 98 cs) {st' : St} (hm : MemAt w' p F st') (hf : Fr [v, F] w w') : SpAt w' s p F g ⟨st', x.tb⟩ := by
  obtain ⟨e1, e2, e3, e4, e5, e6⟩ := h.ne
  obtain ⟨⟨c1, h1⟩, ⟨c2, h2⟩, ⟨c3, h3⟩, ⟨c4, h4⟩⟩ := h.blks
  have n1 : s ≠ v := h1.ne_type hv (by decide)
  have n4 : g ≠ v := h4.ne_type hv (by decide)
  have hN : NoT 82 w [v, F] := NoT.app (S := [v]) (hv.not (by decide)) (h3.not (by decide))
  obtain ⟨⟨cap, hb, hc⟩, -, ⟨cs, hg, hr⟩, n1', n2, n3⟩ := h
  refine ⟨⟨cap, hb.fr hf (by simp; omega), hc⟩, hm, ⟨cs, hg.fr hf (by simp; omega), fun i t hi => ?_⟩, n1', n2, n3⟩
  obtain ⟨vv, k1, k2⟩ := hr i t hi
  exact ⟨vv, k1, k2.fr hf hN⟩
/-- A space and a machine that were made since w0. -/
structure Sm (w0 w : World) (s p F g v : Nat) (x : Sp) (y : Vm) : Prop where
  d : Sd w0 w s p F g x
  vm : VmAt w v y
  gv : w0.heap.size ≤ v
section
variable {w0 w w' : World} {s p F g v : Nat} {x : Sp} {y : Vm}
theorem Sm.to (h : Sm w0 w s p F g v x y) (hf : Fr [] w w') : Sm w0 w' s p F g v x y := ⟨h.d.to hf, h.vm.fr hf (by simp), h.gv⟩
theorem Sm.ne (h : Sm w0 w s p F g v x y) : s ≠ v ∧ p ≠ v ∧ F ≠ v ∧ g ≠ v := by
  obtain ⟨⟨c1, h1⟩, ⟨c2, h2⟩, ⟨c3, h3⟩, ⟨c4, h4⟩⟩ := h.d.at_.blks
  exact ⟨h1.ne_type h.vm.hb (by decide), h2.ne_type h.vm.hb (by decide), h3.ne_type h.vm.hb (by decide), h4.ne_type h.vm.hb (by decide)⟩
theorem Sm.turn {x' : Sp} (h : Sm w0 w s p F g v x y) (ht : SpT s p F g w x' w') (hok : SpOk x') : Sm w0 w' s p F g v x' y := by
  obtain ⟨n1, n2, n3, n4⟩ := h.ne
  exact ⟨h.d.turn ht hok, h.vm.fr ht.2 (by simp; omega), h.gv⟩
theorem Sm.mem (h : Sm w0 w s p F g v x y) : Calls Tryz.prog 12 #[ptr s] w fun e w' => e = .returned (ptr p) ∧ w = w' := Memory_any s p F g x w h.d.at_
theorem Sm.table (h : Sm w0 w s p F g v x y) {i : Int} (hi : hasP x i = true) : Calls Tryz.prog 13 #[ptr s, .int .i64 i] w fun e w' => ∃ b, e = .returned (.slice (some ⟨b, 0, none⟩) (tbOf x i).length (tbOf x i).length) ∧ PB w' b (tbOf x i) ∧ Sm w0 w' s p F g v x y :=
  (Table_any s p F g x i w h.d.at_ h.d.ok.n1).mono fun e w' hT => by
    rcases hT with ⟨h0, -⟩ | ⟨-, b, he, hB, hf, hb⟩
    · exact absurd (h0.symm.trans hi) (by decide)
    · exact ⟨b, he, hB, h.to hf⟩
/-- A step through a partition's own table. -/
theorem Sm.step (h : Sm w0 w s p F g v x y) {i : Int} (hi : hasP x i = true) {b : Nat} (hB : PB w b (tbOf x i)) : Calls Tryz.prog 11 #[ptr v, ptr p, .slice (some ⟨b, 0, none⟩) (tbOf x i).length (tbOf x i).length] w fun e w' =>
    ∃ (k n : Int) (st' : St) (y' : Vm), e = .returned (.agg #[.int .i64 k, .int .i64 n]) ∧ Wr (tbOf x i) x.st st' ∧ Sm w0 w' s p F g v ⟨st', x.tb⟩ y' := by
  obtain ⟨k, t, rfl, hk⟩ := hasP_some hi
  obtain ⟨-, hto⟩ := tbOf_some hk
  have hl := h.d.at_.n3 k t hk
  rw [hto] at hB ⊢
  obtain ⟨A, c, e, -, -, -, b', cb, mk, hb', hT⟩ := hB.tb (cap := t.length) (Nat.le_refl _) (by simp only [maxLen]; omega)
  have hbb : b' < w.heap.size := (Array.getElem?_eq_some_iff.1 hb').1
  refine (Step_any v p F b' t.length t.length y x.st _ t w h.vm h.d.at_.mem hT hbb).mono fun e w' ⟨he, hv, hm, hf⟩ => ?_
  have hW := Wr.stepV y x.st t
  refine ⟨_, _, (stepV y x.st t).2.2, _, he, hW, ⟨h.d.at_.turnV h.vm.hb hm hf, h.d.ok.st_ hW.n, ?_, h.d.gF, h.d.gg⟩, hv, h.gv⟩
  exact h.d.fr.step hf (fun k hk => by
    simp at hk
    rcases hk with rfl | rfl
    · exact .inr h.gv
    · exact .inr h.d.gF)
end
theorem Sd.machine {w0 w : World} {s p F g : Nat} {x : Sp} (h : Sd w0 w s p F g x) : Calls Tryz.prog 10 #[] w fun e w' => ∃ v, e = .returned (ptr v) ∧ Sm w0 w' s p F g v x vm0 :=
  (vNew_any w).mono fun e w' ⟨he, hv, hf⟩ => ⟨_, he, h.to hf, hv, h.fr.size⟩
/-- An answer, of three numbers of its own. -/
theorem Sm.answer {w0 w : World} {s p F g v : Nat} {x : Sp} {y : Vm} (h : Sm w0 w s p F g v x y) (b : Nat) (l0 l1 l2 : Int) (hb : Blk w b 3 #[.int .i64 l0, .int .i64 l1, .int .i64 l2]) : Calls Tryz.prog 15 #[ptr v, .slice (some ⟨b, 0, none⟩) 3 3] w fun e w' => ∃ (c : Int) (y' : Vm), e = .returned (.int .i64 c) ∧ Sm w0 w' s p F g v x y' := by
  obtain ⟨n1, n2, n3, n4⟩ := h.ne
  by_cases hw : y.wt = true
  · refine (vAnswer_yes h.vm b 0 3 (fun j => if j = 0 then l0 else if j = 1 then l1 else l2) hw (fun j hj => ?_) (Blk.ne_type hb h.vm.hb (by decide))).mono fun e w' ⟨he, hv, hf⟩ => ?_
    · rw [Nat.zero_add, hb.cell]
      rcases (by omega : j = 0 ∨ j = 1 ∨ j = 2) with rfl | rfl | rfl <;> rfl
    · refine ⟨_, _, he, ⟨h.d.at_.fr hf (by simp; omega) (by simp; omega) (by simp; omega) (by simp; omega) (h.vm.hb.not (by decide)), h.d.ok, ?_, h.d.gF, h.d.gg⟩, hv, h.gv⟩
      exact h.d.fr.step hf (fun k hk => by
        simp at hk
        subst hk
        exact .inr h.gv)
  · refine (vAnswer_no h.vm _ 3 3 (.inl (by simpa using hw))).mono fun e w' ⟨he, hf⟩ => ?_
    subst hf
    exact ⟨_, _, he, h⟩
/-- What a program keeps of its own bytes. -/
structure Keep (T : List (List Pg)) (k : Nat) (t : List Pg) (pr : ByteArray) (x : Sp) : Prop where
  tb : x.tb = T
  at_ : T[k]? = some t
  r5 : ∀ (j : Nat) (p : Pg), t[j]? = some p → 256 * j < pr.size → p.r = 5
  sz : pr.size ≤ 256 * t.length
  by_ : ∀ q, q < pr.size → x.st.b (loc t (q : Int)) = byA pr q
section
variable {T : List (List Pg)} {k : Nat} {t : List Pg} {pr : ByteArray} {x : Sp}
theorem Keep.has (h : Keep T k t pr x) : hasP x (k : Int) = true ∧ tbOf x (k : Int) = t := tbOf_some (by rw [h.tb]; exact h.at_)
theorem Keep.wr (h : Keep T k t pr x) (hok : SpOk x) {st' : St} (hw : Wr t x.st st') : Keep T k t pr ⟨st', x.tb⟩ := by
  refine ⟨h.tb, h.at_, h.r5, h.sz, fun q hq => ?_⟩
  obtain ⟨p, hp⟩ : ∃ p, t[q / 256]? = some p := ⟨_, List.getElem?_eq_getElem (by have := h.sz; omega)⟩
  have hs := h.sz
  rw [hok.kept (by rw [h.tb]; exact h.at_) hw (by omega) hp (h.r5 _ p hp (by omega))]
  exact h.by_ q hq
theorem Keep.fine (h : Keep T k t pr x) : (allS x (k : Int)).size = 256 * t.length ∧ (allS x (k : Int)).extract 0 pr.size = pr := by
  obtain ⟨-, hto⟩ := h.has
  have hs := h.sz
  have z : (allS x (k : Int)).size = 256 * t.length := by rw [allS_size, hto]
  refine ⟨z, ba_ext fun j => ?_⟩
  have hl : pr.data.toList.length = pr.size := rfl
  rw [ext_at]
  by_cases hj : j < pr.size - 0
  · rw [if_pos hj]
    have e : (allS x (k : Int)).data.toList[0 + j]? = some (x.st.b (loc t ((0 + j : Nat) : Int))) := by
      unfold allS
      rw [hto]
      exact allL_at (by omega)
    rw [e, Nat.zero_add, h.by_ j (by omega)]
    obtain ⟨c, hc⟩ : ∃ c, pr.data.toList[j]? = some c := ⟨_, List.getElem?_eq_getElem (by omega)⟩
    rw [byA_in hc, hc]
  · rw [if_neg hj, List.getElem?_eq_none (by omega)]
end
theorem okT_f {n : Nat} {t : List Pg} (h : okT n t = true) (hp : ∀ p ∈ t, 0 ≤ p.f) : ∀ p ∈ t, 0 ≤ p.f ∧ p.f < n := fun p hm => by
  obtain ⟨i, hi⟩ := List.getElem?_of_mem hm
  exact ⟨hp p hm, (okT_at h hi).2.1⟩
end Go.Proofs.YtbmaecdlkchkeaaGreatDoor
namespace Go.Proofs.YtbmaecdlkchkeaaGreatDoor
open Go.RowKit
set_option linter.unusedVariables false
set_option linter.unusedSimpArgs false
set_option maxRecDepth 100000
/-- Behind a load: the table, page by page; what lies in it, byte by byte. -/
theorem ld_more {x : Sp} (hok : SpOk x) {k : Nat} {t : List Pg} (hk : x.tb[k]? = some t) {pr : ByteArray} (hs : pr.size ≤ t.length * 256) :
    ldE x (k : Int) pr = 0 ∧ Keep (x.tb.set k (ldT t pr t.length)) k (ldT t pr t.length) pr (ldS x (k : Int) pr) ∧ (ldS x (k : Int) pr).tb[k]? = some (ldT t pr t.length) ∧ (∀ (j : Nat) (p : Pg), (ldT t pr t.length)[j]? = some p → ∃ q, t[j]? = some q ∧ p = pgL pr j q) ∧ ∀ q, q < 256 * t.length → (ldS x (k : Int) pr).st.b (loc (ldT t pr t.length) (q : Int)) = byA pr q := by
  obtain ⟨hp, hto⟩ := tbOf_some hk
  have e : ldE x (k : Int) pr = 0 := by
    unfold ldE
    rw [if_neg (by rw [hp]; simp), hto, if_neg (by omega)]
  have hkl := (List.getElem?_eq_some_iff.1 hk).1
  have eS : ldS x (k : Int) pr = ⟨ldM x.st t pr t.length, x.tb.set k (ldT t pr t.length)⟩ := by
    unfold ldS
    rw [if_neg (by omega), hto, Int.toNat_natCast]
  have hT : ∀ (j : Nat) (p : Pg), (ldT t pr t.length)[j]? = some p → ∃ q, t[j]? = some q ∧ p = pgL pr j q := by
    intro j p hj
    unfold ldT at hj
    rw [List.getElem?_mapIdx] at hj
    cases hq : t[j]? with
    | none => rw [hq] at hj; cases hj
    | some q =>
      rw [hq] at hj
      have hjl := (List.getElem?_eq_some_iff.1 hq).1
      simp only [Option.map_some] at hj
      rw [if_pos hjl] at hj
      injection hj with hj
      exact ⟨q, rfl, hj.symm⟩
  have hloc : ∀ q, q < 256 * t.length → loc (ldT t pr t.length) (q : Int) = loc t (q : Int) := by
    intro q hq
    obtain ⟨p, hp⟩ : ∃ p, (ldT t pr t.length)[q / 256]? = some p := ⟨_, List.getElem?_eq_getElem (by rw [ldT_len]; omega)⟩
    obtain ⟨p', hp', rfl⟩ := hT _ _ hp
    rw [loc_at hp, loc_at hp']
    rfl
  have hb : ∀ q, q < 256 * t.length → (ldM x.st t pr t.length).b (loc (ldT t pr t.length) (q : Int)) = byA pr q := fun q hq => by
    rw [hloc q hq]
    exact ldM_at (hok.apart hk) (okT_f (hok.ok k t hk) (fun p hm => (hok.pg k t hk p hm).1)) pr t.length (Nat.le_refl _) q hq
  have hA : (x.tb.set k (ldT t pr t.length))[k]? = some (ldT t pr t.length) := by rw [List.getElem?_set, if_pos rfl, if_pos hkl]
  refine ⟨e, ?_, by rw [eS]; exact hA, hT, fun q hq => by rw [eS]; exact hb q hq⟩
  rw [eS]
  refine ⟨rfl, hA, fun j p hj h5 => ?_, by rw [ldT_len]; omega, fun q hq => hb q (by omega)⟩
  obtain ⟨p', hp', rfl⟩ := hT _ _ hj
  unfold pgL
  simp only
  rw [if_pos h5]
/-- A space whose partition k has a loaded program, and what its table is. -/
structure Ldd (x : Sp) (k : Nat) (u : List Pg) (pr : ByteArray) : Prop where
  ok : SpOk x
  kp : Keep x.tb k u pr x
theorem Ldd.tb {x : Sp} {k : Nat} {u : List Pg} {pr : ByteArray} (h : Ldd x k u pr) : x.tb[k]? = some u := h.kp.at_
theorem Ldd.has {x : Sp} {k : Nat} {u : List Pg} {pr : ByteArray} (h : Ldd x k u pr) : hasP x (k : Int) = true ∧ tbOf x (k : Int) = u := tbOf_some h.tb
theorem Ldd.turn {x : Sp} {k : Nat} {u : List Pg} {pr : ByteArray} (h : Ldd x k u pr) {st' : St} (hw : Wr u x.st st') : Ldd ⟨st', x.tb⟩ k u pr := ⟨h.ok.st_ hw.n, h.kp.wr h.ok hw⟩
/-- Two spaces that have one program each. -/
structure Twin (x1 x2 : Sp) (k1 k2 : Nat) (u1 u2 : List Pg) (pr : ByteArray) : Prop where
  l1 : Ldd x1 k1 u1 pr
  l2 : Ldd x2 k2 u2 pr
  rel : RelS u1 u2 x1.st x2.st
theorem Twin.step {x1 x2 : Sp} {k1 k2 : Nat} {u1 u2 : List Pg} {pr : ByteArray} (h : Twin x1 x2 k1 k2 u1 u2 pr) (y : Vm) :
    (stepV y x2.st u2).1 = (stepV y x1.st u1).1 ∧ (stepV y x2.st u2).2.1 = (stepV y x1.st u1).2.1 ∧ Twin ⟨(stepV y x1.st u1).2.2, x1.tb⟩ ⟨(stepV y x2.st u2).2.2, x2.tb⟩ k1 k2 u1 u2 pr := by
  obtain ⟨e1, e2, e3⟩ := h.rel.step y
  exact ⟨e1.symm, e2.symm, h.l1.turn (Wr.stepV ..), h.l2.turn (Wr.stepV ..), e3⟩
theorem twin_made {x1 x2 : Sp} (h1 : SpOk x1) (h2 : SpOk x2) {k1 k2 : Nat} {t1 t2 : List Pg} (e1 : x1.tb[k1]? = some t1) (e2 : x2.tb[k2]? = some t2) (hl : t1.length = t2.length) {pr : ByteArray} (hs : pr.size ≤ t1.length * 256) :
    ldE x1 (k1 : Int) pr = 0 ∧ ldE x2 (k2 : Int) pr = 0 ∧ Twin (ldS x1 (k1 : Int) pr) (ldS x2 (k2 : Int) pr) k1 k2 (ldT t1 pr t1.length) (ldT t2 pr t2.length) pr := by
  obtain ⟨a1, K1, T1, P1, B1⟩ := ld_more h1 e1 hs
  obtain ⟨a2, K2, T2, P2, B2⟩ := ld_more h2 e2 (by rw [← hl]; exact hs)
  have o1 := h1.ld (k1 : Int) pr
  have o2 := h2.ld (k2 : Int) pr
  have g1 : (ldS x1 (k1 : Int) pr).tb = x1.tb.set k1 (ldT t1 pr t1.length) := K1.tb
  have g2 : (ldS x2 (k2 : Int) pr).tb = x2.tb.set k2 (ldT t2 pr t2.length) := K2.tb
  refine ⟨a1, a2, ⟨o1, by rw [g1]; exact K1⟩, ⟨o2, by rw [g2]; exact K2⟩, ?_⟩
  refine ⟨o1.ok _ _ T1, o2.ok _ _ T2, by rw [ldT_len, ldT_len, hl], o1.apart T1, o2.apart T2, fun i p q hp hq => ?_, fun i p q hp hq o ho => ?_⟩
  · obtain ⟨p', -, rfl⟩ := P1 _ _ hp
    obtain ⟨q', -, rfl⟩ := P2 _ _ hq
    exact ⟨rfl, (o1.pg _ _ T1 _ (List.mem_of_getElem? hp)).1, (o2.pg _ _ T2 _ (List.mem_of_getElem? hq)).1⟩
  · have hi : i < t1.length := by
      have := (List.getElem?_eq_some_iff.1 hp).1
      rw [ldT_len] at this
      exact this
    have b1 := B1 (256 * i + o) (by omega)
    have b2 := B2 (256 * i + o) (by omega)
    rw [loc_at (p := p) (by rw [show (256 * i + o) / 256 = i by omega]; exact hp)] at b1
    rw [loc_at (p := q) (by rw [show (256 * i + o) / 256 = i by omega]; exact hq)] at b2
    rw [show (256 * i + o) % 256 = o by omega] at b1 b2
    rw [b1, b2]
/-- What is read of a loaded program. -/
theorem Ldd.in_ {x : Sp} {k : Nat} {u : List Pg} {pr : ByteArray} (h : Ldd x k u pr) {a n : Nat} (hn : n ≤ 200) (ha : a + n ≤ pr.size) : inE x (k : Int) (a : Int) (n : Int) = 0 ∧ inV x (k : Int) (a : Int) (n : Int) = pr.extract a (a + n) := by
  obtain ⟨hh, hto⟩ := h.has
  have hok := h.ok.ok _ _ h.tb
  have hsz := h.kp.sz
  have hat : ∀ q, q < pr.size → ch1 u 1 (q : Int) = 0 := by
    intro q hq
    obtain ⟨p, hp⟩ : ∃ p, u[q / 256]? = some p := ⟨_, List.getElem?_eq_getElem (by omega)⟩
    have hm := h.ok.pg _ _ h.tb p (List.mem_of_getElem? hp)
    unfold Go.Proofs.YtbmaecdlkchkeaaGreatDoor.ch1
    rw [pgAt_nat, hp]
    simp only
    rw [if_neg (by omega), if_neg]
    rcases hm.2 with e | e <;> rw [e] <;> decide
  have hz : thr u 1 (a : Int) n = 0 := thr_zero (fun i hi => by
    rw [show (a : Int) + (i : Nat) = ((a + i : Nat) : Int) by omega]
    exact hat _ (by omega))
  have e0 : inE0 x (k : Int) (n : Int) = 0 := by
    unfold inE0
    rw [if_neg (by rw [hh]; simp), if_neg (by omega)]
  have hr : rdRM x.st u (a : Int) (n : Int) 1 = ((List.range n).map (fun (i : Nat) => x.st.b (loc u ((a : Int) + (i : Int)))), 0) := by
    unfold rdRM
    rw [if_neg (by rw [hok]; simp), if_neg (by omega), Int.toNat_natCast, if_pos hz, hz]
  have e1 : inE x (k : Int) (a : Int) (n : Int) = 0 := by
    unfold inE
    rw [if_neg (by omega), hto, hr]
    rfl
  refine ⟨e1, ?_⟩
  unfold inV
  rw [if_pos e1, hto, hr]
  refine ba_ext fun j => ?_
  rw [ext_at]
  show ((List.range n).map (fun (i : Nat) => x.st.b (loc u ((a : Int) + (i : Int)))))[j]? = _
  rw [List.getElem?_map]
  have hl : pr.data.toList.length = pr.size := rfl
  by_cases hj : j < n
  · rw [List.getElem?_range hj, if_pos (by omega)]
    simp only [Option.map_some]
    rw [show (a : Int) + (j : Int) = ((a + j : Nat) : Int) by omega, h.kp.by_ (a + j) (by omega)]
    obtain ⟨c, hc⟩ : ∃ c, pr.data.toList[a + j]? = some c := ⟨_, List.getElem?_eq_getElem (by omega)⟩
    rw [byA_in hc, hc]
  · rw [List.getElem?_eq_none (by rw [List.length_range]; omega), if_neg (by omega)]
    rfl
end Go.Proofs.YtbmaecdlkchkeaaGreatDoor
namespace Go.Proofs.YtbmaecdlkchkeaaGreatDoor
open Go.RowKit
set_option linter.unusedVariables false
set_option linter.unusedSimpArgs false
set_option maxRecDepth 100000
section
variable {w0 w w' : World} {s p F g v s2 p2 F2 g2 v2 : Nat} {x x2 : Sp} {y y2 : Vm}
/-- A call that turns another space's frames and tables leaves this one. -/
theorem Sd.off (h2 : Sd w0 w s2 p2 F2 g2 x2) (h1 : Sd w0 w s p F g x) (hf : Fr [F, g] w w') (nF : F ≠ F2) (ng : g ≠ g2) : Sd w0 w' s2 p2 F2 g2 x2 := by
  obtain ⟨⟨c1, b1⟩, ⟨c2, b2⟩, ⟨c3, b3⟩, ⟨c4, b4⟩⟩ := h1.at_.blks
  obtain ⟨⟨d1, e1⟩, ⟨d2, e2⟩, ⟨d3, e3⟩, ⟨d4, e4⟩⟩ := h2.at_.blks
  have n1 : s2 ≠ F := e1.ne_type b3 (by decide)
  have n2 : s2 ≠ g := e1.ne_type b4 (by decide)
  have n3 : p2 ≠ F := e2.ne_type b3 (by decide)
  have n4 : p2 ≠ g := e2.ne_type b4 (by decide)
  have n5 : F2 ≠ g := e3.ne_type b4 (by decide)
  have n6 : g2 ≠ F := e4.ne_type b3 (by decide)
  have hN := NoT.app (S := [F]) (T := [g]) (b3.not (t' := 82) (by decide)) (b4.not (by decide))
  refine ⟨h2.at_.fr hf (by simp; omega) (by simp; omega) (by simp; omega) (by simp; omega) hN, h2.ok, h2.fr.step hf (fun k hk => ?_), h2.gF, h2.gg⟩
  simp at hk
  rcases hk with rfl | rfl
  · exact .inr h1.gF
  · exact .inr h1.gg
/-- Two sound spaces that were made since w0. -/
structure Td (w0 w : World) (s p F g s2 p2 F2 g2 : Nat) (x x2 : Sp) : Prop where
  d1 : Sd w0 w s p F g x
  d2 : Sd w0 w s2 p2 F2 g2 x2
  nF : F ≠ F2
  ng : g ≠ g2
theorem Td.symm (h : Td w0 w s p F g s2 p2 F2 g2 x x2) : Td w0 w s2 p2 F2 g2 s p F g x2 x := ⟨h.d2, h.d1, h.nF.symm, h.ng.symm⟩
theorem Td.to (h : Td w0 w s p F g s2 p2 F2 g2 x x2) (hf : Fr [] w w') : Td w0 w' s p F g s2 p2 F2 g2 x x2 := ⟨h.d1.to hf, h.d2.to hf, h.nF, h.ng⟩
theorem Td.load1 (h : Td w0 w s p F g s2 p2 F2 g2 x x2) (i : Int) (t : ByteArray) : Calls Tryz.prog 8 #[ptr s, .int .i64 i, .string t] w fun e w' => e = .returned (.int .i64 (ldE x i t)) ∧ Td w0 w' s p F g s2 p2 F2 g2 (ldS x i t) x2 :=
  (SLoad_any s p F g x i t w h.d1.at_ h.d1.ok.n1).mono fun e w' ⟨he, ht⟩ => ⟨he, h.d1.turn ht (h.d1.ok.ld i t), h.d2.off h.d1 ht.2 h.nF h.ng, h.nF, h.ng⟩
theorem Td.load2 (h : Td w0 w s p F g s2 p2 F2 g2 x x2) (i : Int) (t : ByteArray) : Calls Tryz.prog 8 #[ptr s2, .int .i64 i, .string t] w fun e w' => e = .returned (.int .i64 (ldE x2 i t)) ∧ Td w0 w' s p F g s2 p2 F2 g2 x (ldS x2 i t) :=
  (h.symm.load1 i t).mono fun e w' ⟨he, ht⟩ => ⟨he, ht.symm⟩
/-- The second space is made. -/
theorem Sd.second (h : Sd w0 w s p F g x) (b m cap : Nat) (A : Option Addr) (t : List Pg) (ht : Tb w b (.slice A m cap) t) (hE : ptsE t = 0) : Calls Tryz.prog 7 #[.slice A m cap] w fun e w' => ∃ s2 p2 F2 g2, e = .returned (.tuple #[ptr s2, .int .i64 0]) ∧ Td w0 w' s p F g s2 p2 F2 g2 x (spNew t) :=
  (SNew_ok b m cap A t w ht hE).mono fun e w' ⟨s2, p2, F2, g2, he, hS, hf', h1, h2, h3, h4⟩ => by
    obtain ⟨l1, l2, l3, l4⟩ := h.at_.lt
    exact ⟨s2, p2, F2, g2, he, h.to hf', ⟨hS, SpOk.new hE, h.fr.trans hf', Nat.le_trans h.fr.size h3, Nat.le_trans h.fr.size h4⟩, by omega, by omega⟩
/-- One machine is there. -/
structure Tv (w0 w : World) (s p F g v s2 p2 F2 g2 : Nat) (x x2 : Sp) (y : Vm) : Prop where
  d : Td w0 w s p F g s2 p2 F2 g2 x x2
  vm : VmAt w v y
  gv : w0.heap.size ≤ v
/-- Both machines are. -/
structure Tp (w0 w : World) (s p F g v s2 p2 F2 g2 v2 : Nat) (x x2 : Sp) (y y2 : Vm) : Prop where
  m1 : Sm w0 w s p F g v x y
  m2 : Sm w0 w s2 p2 F2 g2 v2 x2 y2
  nF : F ≠ F2
  nv : v ≠ v2
theorem Tp.symm (h : Tp w0 w s p F g v s2 p2 F2 g2 v2 x x2 y y2) : Tp w0 w s2 p2 F2 g2 v2 s p F g v x2 x y2 y := ⟨h.m2, h.m1, h.nF.symm, h.nv.symm⟩
theorem Tp.to (h : Tp w0 w s p F g v s2 p2 F2 g2 v2 x x2 y y2) (hf : Fr [] w w') : Tp w0 w' s p F g v s2 p2 F2 g2 v2 x x2 y y2 := ⟨h.m1.to hf, h.m2.to hf, h.nF, h.nv⟩
theorem Td.vm1 (h : Td w0 w s p F g s2 p2 F2 g2 x x2) : Calls Tryz.prog 10 #[] w fun e w' => ∃ v, e = .returned (ptr v) ∧ Tv w0 w' s p F g v s2 p2 F2 g2 x x2 vm0 :=
  (vNew_any w).mono fun e w' ⟨he, hv, hf⟩ => ⟨_, he, h.to hf, hv, h.d1.fr.size⟩
theorem Tv.vm2 (h : Tv w0 w s p F g v s2 p2 F2 g2 x x2 y) : Calls Tryz.prog 10 #[] w fun e w' => ∃ v2, e = .returned (ptr v2) ∧ Tp w0 w' s p F g v s2 p2 F2 g2 v2 x x2 y vm0 :=
  (vNew_any w).mono fun e w' ⟨he, hv, hf⟩ => ⟨_, he, ⟨h.d.d1.to hf, h.vm.fr hf (by simp), h.gv⟩, ⟨h.d.d2.to hf, hv, h.d.d2.fr.size⟩, h.d.nF, by have := h.vm.lt; omega⟩
/-- A step, told wholly. -/
theorem Sm.stepX (h : Sm w0 w s p F g v x y) {i : Int} (hi : hasP x i = true) {b : Nat} {u : List Pg} (hu : tbOf x i = u) (hB : PB w b u) : Calls Tryz.prog 11 #[ptr v, ptr p, .slice (some ⟨b, 0, none⟩) u.length u.length] w fun e w' =>
    e = .returned (.agg #[.int .i64 (stepV y x.st u).1.1, .int .i64 (stepV y x.st u).1.2]) ∧ Sm w0 w' s p F g v ⟨(stepV y x.st u).2.2, x.tb⟩ (stepV y x.st u).2.1 ∧ Fr [v, F] w w' := by
  subst hu
  obtain ⟨k, t, rfl, hk⟩ := hasP_some hi
  obtain ⟨-, hto⟩ := tbOf_some hk
  have hl := h.d.at_.n3 k t hk
  rw [hto] at hB ⊢
  obtain ⟨A, c, e, -, -, -, b', cb, mk, hb', hT⟩ := hB.tb (cap := t.length) (Nat.le_refl _) (by simp only [maxLen]; omega)
  have hbb : b' < w.heap.size := (Array.getElem?_eq_some_iff.1 hb').1
  refine (Step_any v p F b' t.length t.length y x.st _ t w h.vm h.d.at_.mem hT hbb).mono fun e w' ⟨he, hv, hm, hf⟩ => ?_
  have hW := Wr.stepV y x.st t
  refine ⟨he, ⟨⟨h.d.at_.turnV h.vm.hb hm hf, h.d.ok.st_ hW.n, ?_, h.d.gF, h.d.gg⟩, hv, h.gv⟩, hf⟩
  exact h.d.fr.step hf (fun k hk => by
    simp at hk
    rcases hk with rfl | rfl
    · exact .inr h.gv
    · exact .inr h.d.gF)
theorem Sm.off (h2 : Sm w0 w s2 p2 F2 g2 v2 x2 y2) (h1 : Sm w0 w s p F g v x y) (hf : Fr [v, F] w w') (nF : F ≠ F2) (nv : v ≠ v2) : Sm w0 w' s2 p2 F2 g2 v2 x2 y2 := by
  obtain ⟨⟨c1, b1⟩, ⟨c2, b2⟩, ⟨c3, b3⟩, ⟨c4, b4⟩⟩ := h1.d.at_.blks
  obtain ⟨⟨d1, e1⟩, ⟨d2, e2⟩, ⟨d3, e3⟩, ⟨d4, e4⟩⟩ := h2.d.at_.blks
  have bv := h1.vm.hb
  have ev := h2.vm.hb
  have n1 : s2 ≠ F := e1.ne_type b3 (by decide)
  have n2 : s2 ≠ v := e1.ne_type bv (by decide)
  have n3 : p2 ≠ F := e2.ne_type b3 (by decide)
  have n4 : p2 ≠ v := e2.ne_type bv (by decide)
  have n5 : F2 ≠ v := e3.ne_type bv (by decide)
  have n6 : g2 ≠ F := e4.ne_type b3 (by decide)
  have n7 : g2 ≠ v := e4.ne_type bv (by decide)
  have n8 : v2 ≠ F := ev.ne_type b3 (by decide)
  have hN := NoT.app (S := [v]) (T := [F]) (bv.not (t' := 82) (by decide)) (b3.not (by decide))
  refine ⟨⟨h2.d.at_.fr hf (by simp; omega) (by simp; omega) (by simp; omega) (by simp; omega) hN, h2.d.ok, h2.d.fr.step hf (fun k hk => ?_), h2.d.gF, h2.d.gg⟩, h2.vm.fr hf (by simp; omega), h2.gv⟩
  simp at hk
  rcases hk with rfl | rfl
  · exact .inr h1.gv
  · exact .inr h1.d.gF
theorem Tp.step1 (h : Tp w0 w s p F g v s2 p2 F2 g2 v2 x x2 y y2) {k : Nat} {u : List Pg} (hi : hasP x (k : Int) = true ∧ tbOf x (k : Int) = u) {b : Nat} (hB : PB w b u) : Calls Tryz.prog 11 #[ptr v, ptr p, .slice (some ⟨b, 0, none⟩) u.length u.length] w fun e w' =>
    e = .returned (.agg #[.int .i64 (stepV y x.st u).1.1, .int .i64 (stepV y x.st u).1.2]) ∧ Tp w0 w' s p F g v s2 p2 F2 g2 v2 ⟨(stepV y x.st u).2.2, x.tb⟩ x2 (stepV y x.st u).2.1 y2 :=
  (h.m1.stepX hi.1 hi.2 hB).mono fun e w' ⟨he, hm, hf⟩ => ⟨he, hm, h.m2.off h.m1 hf h.nF h.nv, h.nF, h.nv⟩
theorem Tp.step2 (h : Tp w0 w s p F g v s2 p2 F2 g2 v2 x x2 y y2) {k : Nat} {u : List Pg} (hi : hasP x2 (k : Int) = true ∧ tbOf x2 (k : Int) = u) {b : Nat} (hB : PB w b u) : Calls Tryz.prog 11 #[ptr v2, ptr p2, .slice (some ⟨b, 0, none⟩) u.length u.length] w fun e w' =>
    e = .returned (.agg #[.int .i64 (stepV y2 x2.st u).1.1, .int .i64 (stepV y2 x2.st u).1.2]) ∧ Tp w0 w' s p F g v s2 p2 F2 g2 v2 x ⟨(stepV y2 x2.st u).2.2, x2.tb⟩ y (stepV y2 x2.st u).2.1 :=
  (h.symm.step1 hi hB).mono fun e w' ⟨he, hm⟩ => ⟨he, hm.symm⟩
theorem Tp.table1 (h : Tp w0 w s p F g v s2 p2 F2 g2 v2 x x2 y y2) {k : Nat} {u : List Pg} (hi : hasP x (k : Int) = true ∧ tbOf x (k : Int) = u) : Calls Tryz.prog 13 #[ptr s, .int .i64 (k : Int)] w fun e w' => ∃ b, e = .returned (.slice (some ⟨b, 0, none⟩) u.length u.length) ∧ PB w' b u ∧ Tp w0 w' s p F g v s2 p2 F2 g2 v2 x x2 y y2 := by
  obtain ⟨hi, hu⟩ := hi
  subst hu
  exact (Table_any s p F g x (k : Int) w h.m1.d.at_ h.m1.d.ok.n1).mono fun e w' hT => by
    rcases hT with ⟨h0, -⟩ | ⟨-, b, he, hB, hf, hb⟩
    · exact absurd (h0.symm.trans hi) (by decide)
    · exact ⟨b, he, hB, h.to hf⟩
theorem Tp.table2 (h : Tp w0 w s p F g v s2 p2 F2 g2 v2 x x2 y y2) {k : Nat} {u : List Pg} (hi : hasP x2 (k : Int) = true ∧ tbOf x2 (k : Int) = u) : Calls Tryz.prog 13 #[ptr s2, .int .i64 (k : Int)] w fun e w' => ∃ b, e = .returned (.slice (some ⟨b, 0, none⟩) u.length u.length) ∧ PB w' b u ∧ Tp w0 w' s p F g v s2 p2 F2 g2 v2 x x2 y y2 :=
  (h.symm.table1 hi).mono fun e w' ⟨b, he, hB, hm⟩ => ⟨b, he, hB, hm.symm⟩
theorem Tp.mem1 (h : Tp w0 w s p F g v s2 p2 F2 g2 v2 x x2 y y2) : Calls Tryz.prog 12 #[ptr s] w fun e w' => e = .returned (ptr p) ∧ w = w' := Memory_any s p F g x w h.m1.d.at_
theorem Tp.mem2 (h : Tp w0 w s p F g v s2 p2 F2 g2 v2 x x2 y y2) : Calls Tryz.prog 12 #[ptr s2] w fun e w' => e = .returned (ptr p2) ∧ w = w' := Memory_any s2 p2 F2 g2 x2 w h.m2.d.at_
theorem Tp.answer1 (h : Tp w0 w s p F g v s2 p2 F2 g2 v2 x x2 y y2) (b : Nat) (l0 : Int) (hw : y.wt = true) (hb : Blk w b 3 #[.int .i64 l0, .int .i64 0, .int .i64 0]) : Calls Tryz.prog 15 #[ptr v, .slice (some ⟨b, 0, none⟩) 3 3] w fun e w' => e = .returned (.int .i64 0) ∧ Tp w0 w' s p F g v s2 p2 F2 g2 v2 x x2 (ansV y (fun j => if j = 0 then l0 else 0)) y2 := by
  obtain ⟨⟨c1, b1⟩, ⟨c2, b2⟩, ⟨c3, b3⟩, ⟨c4, b4⟩⟩ := h.m1.d.at_.blks
  obtain ⟨⟨d1, e1⟩, ⟨d2, e2⟩, ⟨d3, e3⟩, ⟨d4, e4⟩⟩ := h.m2.d.at_.blks
  have bv := h.m1.vm.hb
  have n1 : s ≠ v := b1.ne_type bv (by decide)
  have n2 : p ≠ v := b2.ne_type bv (by decide)
  have n3 : F ≠ v := b3.ne_type bv (by decide)
  have n4 : g ≠ v := b4.ne_type bv (by decide)
  have n5 : s2 ≠ v := e1.ne_type bv (by decide)
  have n6 : p2 ≠ v := e2.ne_type bv (by decide)
  have n7 : F2 ≠ v := e3.ne_type bv (by decide)
  have n8 : g2 ≠ v := e4.ne_type bv (by decide)
  have hN : NoT 82 w [v] := bv.not (by decide)
  have hnv := h.nv
  refine (vAnswer_yes h.m1.vm b 0 3 (fun j => if j = 0 then l0 else 0) hw (fun j hj => ?_) (Blk.ne_type hb bv (by decide))).mono fun e w' ⟨he, hv, hf⟩ => ?_
  · rw [Nat.zero_add, hb.cell]
    rcases (by omega : j = 0 ∨ j = 1 ∨ j = 2) with rfl | rfl | rfl <;> rfl
  · have st : ∀ {u : World}, Fr [] u w → u.heap.size ≤ v → Fr [] u w' := fun hu hg => hu.step hf (fun k hk => by
      simp at hk
      subst hk
      exact .inr hg)
    exact ⟨he, ⟨⟨h.m1.d.at_.fr hf (by simp; omega) (by simp; omega) (by simp; omega) (by simp; omega) hN, h.m1.d.ok, st h.m1.d.fr h.m1.gv, h.m1.d.gF, h.m1.d.gg⟩, hv, h.m1.gv⟩,
      ⟨⟨h.m2.d.at_.fr hf (by simp; omega) (by simp; omega) (by simp; omega) (by simp; omega) hN, h.m2.d.ok, st h.m2.d.fr h.m1.gv, h.m2.d.gF, h.m2.d.gg⟩, h.m2.vm.fr hf (by simp; omega), h.m2.gv⟩, h.nF, h.nv⟩
theorem Tp.answer2 (h : Tp w0 w s p F g v s2 p2 F2 g2 v2 x x2 y y2) (b : Nat) (l0 : Int) (hw : y2.wt = true) (hb : Blk w b 3 #[.int .i64 l0, .int .i64 0, .int .i64 0]) : Calls Tryz.prog 15 #[ptr v2, .slice (some ⟨b, 0, none⟩) 3 3] w fun e w' => e = .returned (.int .i64 0) ∧ Tp w0 w' s p F g v s2 p2 F2 g2 v2 x x2 y (ansV y2 (fun j => if j = 0 then l0 else 0)) :=
  (h.symm.answer1 b l0 hw hb).mono fun e w' ⟨he, hm⟩ => ⟨he, hm.symm⟩
theorem Tp.in1 (h : Tp w0 w s p F g v s2 p2 F2 g2 v2 x x2 y y2) {k : Nat} {u : List Pg} {pr : ByteArray} (hl : Ldd x k u pr) {a n : Nat} (hn : n ≤ 200) (ha : a + n ≤ pr.size) (h4 : pr.size ≤ 4096) : Calls Tryz.prog 17 #[ptr s, .int .i64 (k : Int), .int .i64 (a : Int), .int .i64 (n : Int)] w fun e w' => e = .returned (.tuple #[.string (pr.extract a (a + n)), .int .i64 0]) ∧ Tp w0 w' s p F g v s2 p2 F2 g2 v2 x x2 y y2 := by
  obtain ⟨e1, e2⟩ := hl.in_ hn ha
  have := In_any s p F g x (k : Int) (a : Int) (n : Int) w h.m1.d.at_ (by omega)
  rw [e1, e2] at this
  exact this.mono fun e w' ⟨he, hf⟩ => ⟨he, h.to hf⟩
theorem Tp.in2 (h : Tp w0 w s p F g v s2 p2 F2 g2 v2 x x2 y y2) {k : Nat} {u : List Pg} {pr : ByteArray} (hl : Ldd x2 k u pr) {a n : Nat} (hn : n ≤ 200) (ha : a + n ≤ pr.size) (h4 : pr.size ≤ 4096) : Calls Tryz.prog 17 #[ptr s2, .int .i64 (k : Int), .int .i64 (a : Int), .int .i64 (n : Int)] w fun e w' => e = .returned (.tuple #[.string (pr.extract a (a + n)), .int .i64 0]) ∧ Tp w0 w' s p F g v s2 p2 F2 g2 v2 x x2 y y2 :=
  (h.symm.in1 hl hn ha h4).mono fun e w' ⟨he, hm⟩ => ⟨he, hm.symm⟩
theorem Tp.place1 (h : Tp w0 w s p F g v s2 p2 F2 g2 v2 x x2 y y2) : Calls Tryz.prog 14 #[ptr v] w fun e w' => e = .returned (.int .i64 y.pl) ∧ w = w' := vPlace_any h.m1.vm
theorem Tp.place2 (h : Tp w0 w s p F g v s2 p2 F2 g2 v2 x x2 y y2) : Calls Tryz.prog 14 #[ptr v2] w fun e w' => e = .returned (.int .i64 y2.pl) ∧ w = w' := vPlace_any h.m2.vm
theorem Tp.reg1 (h : Tp w0 w s p F g v s2 p2 F2 g2 v2 x x2 y y2) (k : Nat) (hk : k < 16) : Calls Tryz.prog 16 #[ptr v, .int .i64 (k : Int)] w fun e w' => e = .returned (.int .i64 (y.r k)) ∧ w = w' := vReg_in h.m1.vm k hk
theorem Tp.reg2 (h : Tp w0 w s p F g v s2 p2 F2 g2 v2 x x2 y y2) (k : Nat) (hk : k < 16) : Calls Tryz.prog 16 #[ptr v2, .int .i64 (k : Int)] w fun e w' => e = .returned (.int .i64 (y2.r k)) ∧ w = w' := vReg_in h.m2.vm k hk
end
end Go.Proofs.YtbmaecdlkchkeaaGreatDoor

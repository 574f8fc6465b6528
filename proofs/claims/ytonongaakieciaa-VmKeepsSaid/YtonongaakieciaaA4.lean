/- VmKeeps, walked. -/
import Derived.Test.YtonongaakieciaaA3
import Derived.Deep.DeepCutAuto
namespace Go.Proofs.Ytonongaakieciaa
open Go.RowKit
set_option linter.unusedVariables false
set_option linter.unusedSimpArgs false
set_option maxRecDepth 100000
theorem Try.info4 : (Try.prog.info? 4).map (fun i => (i.zero, i.size, i.bytes)) = some (some (.bool false), 1, 1) := by kernel_rfl
theorem Try.info9k : (Try.prog.info? 9).map (fun i => (i.zero, i.size, i.bytes)) = some (some (.string ⟨#[]⟩), 1, 16) := by kernel_rfl
theorem make_bools (n : Nat) (hn : n ≤ 160) : ∃ Z : Array Value, (∀ w : World, (Instr.makeSlice 91 (.int .i64 n) (.int .i64 n)).run Try.prog w = .ok (.slice (some ⟨w.heap.size, 0, none⟩) n n) (w.alloc (.cells Z 4))) ∧ ∀ j, j < n → Z[j]? = some (.bool false) := by
  obtain ⟨i0, hi0, hz0, hz1, hz2⟩ := info3 Try.info4
  refine ⟨madeCells (Value.bool false).cells (n * i0.size), fun w => ?_, fun j hj => ?_⟩
  · have := run_make (P := Try.prog) w 91 4 i0 _ Try.underlying91 hi0 hz0 .i64 .i64 n n (by omega) (by omega) (by rw [hz2]; omega) (by omega)
    simpa using this
  · rw [hz1]
    have h3 : (Value.bool false).cells = #[.bool false] := rfl
    rw [h3]
    simp [madeCells, hj, Nat.mod_one]
/-- A row of truths. -/
def OpB (W : World) (g : Nat) (o : Nat → Bool) (n : Nat) : Prop := ∃ cs, Blk W g 4 cs ∧ ∀ i, i < n → cs[i]? = some (.bool (o i))
theorem OpB.fr {W W' : World} {g n : Nat} {o : Nat → Bool} {S : List Nat} (h : OpB W g o n) (hf : Fr S W W') (hg : g ∉ S) : OpB W' g o n := by
  obtain ⟨cs, hb, hc⟩ := h
  exact ⟨cs, hb.fr hf hg, hc⟩
theorem OpB.cell {W : World} {g n : Nat} {o : Nat → Bool} (h : OpB W g o n) {i : Nat} (hi : i < n) : W.cell? ⟨g, i, none⟩ = some (.bool (o i)) ∧ W.frozen? ⟨g, i, none⟩ = false := by
  obtain ⟨cs, hb, hc⟩ := h
  exact ⟨by rw [hb.cell]; exact hc i hi, hb.frozen i⟩
/-- Texts in a row of their own. -/
def WasT (W : World) (g : Nat) (st : St) (n : Nat) : Prop := ∃ cs, Blk W g 9 cs ∧ ∀ i, i < n → cs[i]? = some (.string (frS st i))
theorem WasT.fr {W W' : World} {g n : Nat} {st : St} {S : List Nat} (h : WasT W g st n) (hf : Fr S W W') (hg : g ∉ S) : WasT W' g st n := by
  obtain ⟨cs, hb, hc⟩ := h
  exact ⟨cs, hb.fr hf hg, hc⟩
theorem WasT.cell {W : World} {g n : Nat} {st : St} (h : WasT W g st n) {i : Nat} (hi : i < n) : W.cell? ⟨g, i, none⟩ = some (.string (frS st i)) := by
  obtain ⟨cs, hb, hc⟩ := h
  rw [hb.cell]
  exact hc i hi
def wasV (st : St) (j : Nat) : List Value := (List.range j).map fun i => .string (frS st i)
theorem wasV_succ (st : St) (j : Nat) : wasV st (j + 1) = wasV st j ++ [.string (frS st j)] := by
  unfold wasV
  rw [List.range_succ, List.map_append]
  rfl
/-- Which frames the first k pages let be written. -/
def opnK (t : List Pg) (k i : Nat) : Bool := (t.take k).any fun p => decide (p.f = (i : Int)) && decide (p.r / 2 % 2 = 1)
theorem opnK_succ {t : List Pg} {i k : Nat} {p : Pg} (hp : t[k]? = some p) : opnK t (k + 1) i = (opnK t k i || (decide (p.f = (i : Int)) && decide (p.r / 2 % 2 = 1))) := by
  unfold opnK
  rw [List.take_add_one, hp]
  simp
theorem OpB.put {W : World} {g n f k : Nat} {t : List Pg} {p : Pg} (h : OpB W g (opnK t k) n) (hp : t[k]? = some p) (hf : p.f = (f : Int)) (hr : p.r / 2 % 2 = 1) : OpB (W.setCell ⟨g, f, none⟩ (.bool true)) g (opnK t (k + 1)) n := by
  obtain ⟨cs, hb, hc⟩ := h
  refine ⟨_, hb.set_ f (.bool true), fun i hi => ?_⟩
  rw [opnK_succ hp, Array.getElem?_setIfInBounds]
  have hsz : i < cs.size := (Array.getElem?_eq_some_iff.1 (hc i hi)).1
  by_cases e : f = i
  · subst e
    rw [if_pos rfl, if_pos hsz]
    simp [hf, hr]
  · rw [if_neg e, hc i hi]
    have : decide (p.f = (i : Int)) = false := decide_eq_false (by rw [hf]; omega)
    rw [this]
    simp
theorem OpB.skip {W : World} {g n k : Nat} {t : List Pg} {p : Pg} (h : OpB W g (opnK t k) n) (hp : t[k]? = some p) (hr : ¬ p.r / 2 % 2 = 1) : OpB W g (opnK t (k + 1)) n := by
  obtain ⟨cs, hb, hc⟩ := h
  refine ⟨cs, hb, fun i hi => ?_⟩
  rw [opnK_succ hp, hc i hi]
  simp [hr]
theorem MW.setB {w W : World} {v p F b mm cap : Nat} {A : Option Addr} {t : List Pg} {x : Vm} {st : St} (h : MW w W v p F b mm cap A t x st) {g : Nat} {cs : Array Value} (hb : Blk W g 4 cs) (hg : w.heap.size ≤ g) (htb : b ≠ g) (i : Nat) (u : Value) : MW w (W.setCell ⟨g, i, none⟩ u) v p F b mm cap A t x st := by
  have hf : Fr [g] W (W.setCell ⟨g, i, none⟩ u) := (Fr.refl [g] W).setCell (p := ⟨g, i, none⟩) (.inl (by simp)) u
  have n1 : g ≠ v := (Blk.ne_ h.vm.hb hb (by decide)).symm
  obtain ⟨n5, n2⟩ := h.mem.ne_ev hb (by decide) (by decide)
  exact ⟨h.vm.fr hf (by simpa using n1.symm), h.mem.to hf (by simpa using n5) (by simpa using n2), h.tb.fr hf (by simpa using htb), Nat.lt_of_lt_of_le h.lt hf.size, h.nv, h.nF, h.fr.step hf (fun k hk => by simp at hk; subst hk; exact .inr hg), h.gv, h.gF, h.gp⟩
theorem WasT.of_own {W : World} {base n : Nat} {v : Value} {st : St} (h : W.ownsRow base 9 1 v n (wasV st n)) (hn : 1 ≤ n) : ∃ gw cap, v = .slice (some ⟨gw, 0, none⟩) n cap ∧ WasT W gw st n := by
  rcases h.2 with ⟨-, h2⟩ | ⟨g, cap, cur, rfl, hb, hh, h3, h4, h5, h6⟩
  · omega
  · refine ⟨g, cap, rfl, cur, hh, fun i hi => ?_⟩
    have e : (wasV st n)[i]? = some (.string (frS st i)) := by unfold wasV; simp [hi]
    rw [← h6, List.getElem?_take] at e
    split at e
    · simpa using e
    · cases e
section
variable {w W W' : World} {v p F b mm cap : Nat} {A : Option Addr} {t : List Pg} {x : Vm} {st s0 : St} {g gw n : Nat} {o : Nat → Bool}
/-- The world of VmKeeps. -/
structure KpI (w W : World) (v p F b mm cap : Nat) (A : Option Addr) (t : List Pg) (x : Vm) (st s0 : St) (g gw n : Nat) (o : Nat → Bool) : Prop where
  mw : MW w W v p F b mm cap A t x st
  kp : KpS_ t s0 st
  op : OpB W g o n
  was : WasT W gw s0 n
theorem KpI.to (h : KpI w W v p F b mm cap A t x st s0 g gw n o) (hf : Fr [] W W') : KpI w W' v p F b mm cap A t x st s0 g gw n o := ⟨h.mw.to hf, h.kp, h.op.fr hf (by simp), h.was.fr hf (by simp)⟩
theorem KpI.ne (h : KpI w W v p F b mm cap A t x st s0 g gw n o) : (g ≠ v ∧ g ≠ F) ∧ (gw ≠ v ∧ gw ≠ F) := by
  obtain ⟨c1, b1, -⟩ := h.op
  obtain ⟨c2, b2, -⟩ := h.was
  exact ⟨⟨(Blk.ne_ h.mw.vm.hb b1 (by decide)).symm, (h.mw.mem.ne_ev b1 (by decide) (by decide)).2.symm⟩, (Blk.ne_ h.mw.vm.hb b2 (by decide)).symm, (h.mw.mem.ne_ev b2 (by decide) (by decide)).2.symm⟩
theorem KpI.step (h : KpI w W v p F b mm cap A t x st s0 g gw n o) {E : Int × Int} {X : Vm} {S : St} (hs : stepV x st t = (E, X, S)) : Calls Try.prog 34 #[ptr v, ptr p, .slice A mm cap] W fun e w' => e = .returned (.agg #[.int .i64 E.1, .int .i64 E.2]) ∧ KpI w w' v p F b mm cap A t X S s0 g gw n o ∧ Fr [v, F] W w' := by
  obtain ⟨⟨n1, n2⟩, n3, n4⟩ := h.ne
  have hk := h.kp.step x
  rw [hs] at hk
  refine (Step_any v p F b mm cap x st A t W h.mw.vm h.mw.mem h.mw.tb h.mw.lt).mono ?_
  rw [hs]
  rintro e w' ⟨he, hv, hm, hf⟩
  have hfr : Fr [] w w' := h.mw.fr.step hf (fun k hk => by simp at hk; rcases hk with rfl | rfl <;> first | exact .inr h.mw.gv | exact .inr h.mw.gF)
  exact ⟨he, ⟨⟨hv, hm, h.mw.tb.fr hf (by simp [h.mw.nv, h.mw.nF]), Nat.lt_of_lt_of_le h.mw.lt hf.size, h.mw.nv, h.mw.nF, hfr, h.mw.gv, h.mw.gF, h.mw.gp⟩, hk, h.op.fr hf (by simp [n1, n2]), h.was.fr hf (by simp [n3, n4])⟩, hf⟩
theorem KpI.ev (h : KpI w W v p F b mm cap A t x st s0 g gw n o) {q : Nat} {cs : Array Value} (hb : Blk W q 65 cs) : q ≠ v ∧ q ≠ F := ⟨(Blk.ne_ h.mw.vm.hb hb (by decide)).symm, (h.mw.mem.ne_ev hb (by decide) (by decide)).2.symm⟩
theorem KpI.yes (h : KpI w W v p F b mm cap A t x st s0 g gw n o) (hw : x.wt = true) {q c : Nat} {l0 l1 l2 : Int} (hb : Blk W q 3 #[.int .i64 l0, .int .i64 l1, .int .i64 l2]) : Calls Try.prog 33 #[ptr v, .slice (some ⟨q, 0, none⟩) 3 c] W fun e w' => e = .returned (.int .i64 0) ∧ KpI w w' v p F b mm cap A t (ansV x (fun j => if j = 0 then l0 else if j = 1 then l1 else l2)) st s0 g gw n o := by
  obtain ⟨⟨n1, n2⟩, n3, n4⟩ := h.ne
  obtain ⟨m1, m2⟩ := h.mw.mem.ne_vm h.mw.vm
  refine (vAnswer_yes h.mw.vm q 0 c (fun j => if j = 0 then l0 else if j = 1 then l1 else l2) hw (fun j hj => ?_) (Blk.ne_ hb h.mw.vm.hb (by decide))).mono ?_
  · rw [Nat.zero_add, hb.cell]
    rcases (by omega : j = 0 ∨ j = 1 ∨ j = 2) with rfl | rfl | rfl <;> rfl
  · rintro e w' ⟨he, hv, hf⟩
    exact ⟨he, ⟨hv, h.mw.mem.to hf (by simpa using m1) (by simpa using m2), h.mw.tb.fr hf (by simpa using h.mw.nv), Nat.lt_of_lt_of_le h.mw.lt hf.size, h.mw.nv, h.mw.nF, h.mw.fr.step hf (fun k hk => by simp at hk; subst hk; exact .inr h.mw.gv), h.mw.gv, h.mw.gF, h.mw.gp⟩, h.kp, h.op.fr hf (by simpa using n1), h.was.fr hf (by simpa using n3)⟩
end
set_option maxHeartbeats 4000000 in
theorem keeps_bad (n : Int) (LA : Option Addr) (nl cl : Nat) (TA : Option Addr) (nt ct : Nat) (s : Int) (RA : Option Addr) (na ca : Nat) (w : World) (h : n < 1 ∨ 160 < n) :
    Calls Try.prog 9 #[.agg #[.int .i64 n, .slice LA nl cl, .slice TA nt ct], .agg #[.int .i64 s, .slice RA na ca]] w fun e w' => e = .returned (.bool true) ∧ Fr [] w w' := by
  have H0 := Lib.hid (((Fr.refl [] w).alloc (.cells #[.int .i64 n, .slice LA nl cl, .slice TA nt ct] 72)).alloc (.cells #[.int .i64 s, .slice RA na ca] 75))
  have HB := Lib.hid ((Blk.new w 72 #[.int .i64 n, .slice LA nl cl, .slice TA nt ct]).alloc (.cells #[.int .i64 s, .slice RA na ca] 75))
  generalize hW0 : (w.alloc (.cells #[.int .i64 n, .slice LA nl cl, .slice TA nt ct] 72)).alloc (.cells #[.int .i64 s, .slice RA na ca] 75) = W0 at *
  have HK := Lib.hid (fun W (hf : Fr [] W0 W) => (show W.cell? ⟨w.heap.size, 0, none⟩ = some (.int .i64 n) ∧ W.cell? ⟨w.heap.size, 1, none⟩ = some (.slice LA nl cl) ∧ W.cell? ⟨w.heap.size, 2, none⟩ = some (.slice TA nt ct) from ⟨(HB.out.fr hf (by simp)).cell 0, (HB.out.fr hf (by simp)).cell 1, (HB.out.fr hf (by simp)).cell 2⟩))
  have H1 := Lib.hid (fun W => made_bad n LA nl cl TA nt ct W h)
  have H2 := Lib.hid (fun W => rNew_bad n W h)
  have HV := Lib.hid vNew_any
  have HFx := Lib.hid lFixed_any
  obtain ⟨k0, k1, k2⟩ := HK.out W0 (Fr.refl _ _)
  clear h
  go_enter Try.func9, Try.ntmps9
  go_wp2_with (first
    | (go_at_call 40; refine (H1.out _).mono ?_; clear H1; rintro e w1 ⟨rfl, hf⟩; have HF1 := Lib.hid hf; clear hf k0 k1 k2)
    | (go_at_call 30; refine (HV.out _).mono ?_; clear HV; rintro e w4 ⟨rfl, -, hf⟩; have HF4 := Lib.hid (HF1.out.trans hf); clear hf HF1; obtain ⟨a0, a1, a2⟩ := HK.out _ HF4.out)
    | (go_at_call 41; refine (H2.out _).mono ?_; rintro e w5 ⟨rfl, rfl⟩)
    | (go_at_call 37; refine (HFx.out _).mono ?_; rintro e w6 ⟨rfl, hf⟩; have HF6 := Lib.hid ((H0.out.trans HF4.out).trans hf); clear hf)
    | fail)
  go_ret
  exact ⟨rfl, HF6.out⟩
set_option maxHeartbeats 8000000 in
theorem keeps_ok (n : Nat) (h1 : 1 ≤ n) (h2 : n ≤ 160) (LA : Option Addr) (nl cl : Nat) (l : Nat → ByteArray) (TA : Option Addr) (nt ct b : Nat) (t : List Pg) (s : Int) (RA : Option Addr) (na ca : Nat) (w : World) (hl : PrZ w LA nl l) (ht : Tb w b (.slice TA nt ct) t) (hb : b < w.heap.size ∨ b = 0) :
    Calls Try.prog 9 #[.agg #[.int .i64 (n : Int), .slice LA nl cl, .slice TA nt ct], .agg #[.int .i64 s, .slice RA na ca]] w fun e w' => e = .returned (.bool true) ∧ Fr [] w w' := by
  obtain ⟨Z, hmk, hZ⟩ := make_bools n h2
  have H0 := Lib.hid (((Fr.refl [] w).alloc (.cells #[.int .i64 (n : Int), .slice LA nl cl, .slice TA nt ct] 72)).alloc (.cells #[.int .i64 s, .slice RA na ca] 75))
  have HB := Lib.hid ((Blk.new w 72 #[.int .i64 (n : Int), .slice LA nl cl, .slice TA nt ct]).alloc (.cells #[.int .i64 s, .slice RA na ca] 75))
  have HB2 := Lib.hid (Blk.new' (w := w.alloc (.cells #[.int .i64 (n : Int), .slice LA nl cl, .slice TA nt ct] 72)) (t := 75) (cs := #[.int .i64 s, .slice RA na ca]) (g := w.heap.size + 1) (by simp))
  generalize hW0 : (w.alloc (.cells #[.int .i64 (n : Int), .slice LA nl cl, .slice TA nt ct] 72)).alloc (.cells #[.int .i64 s, .slice RA na ca] 75) = W0 at *
  have hz0 := HB2.out.lt
  have HK := Lib.hid (fun W (hf : Fr [] W0 W) => (show W.cell? ⟨w.heap.size, 0, none⟩ = some (.int .i64 (n : Int)) ∧ W.cell? ⟨w.heap.size, 1, none⟩ = some (.slice LA nl cl) ∧ W.cell? ⟨w.heap.size, 2, none⟩ = some (.slice TA nt ct) ∧ W.cell? ⟨w.heap.size + 1, 0, none⟩ = some (.int .i64 s) from ⟨(HB.out.fr hf (by simp)).cell 0, (HB.out.fr hf (by simp)).cell 1, (HB.out.fr hf (by simp)).cell 2, (HB2.out.fr hf (by simp)).cell 0⟩))
  have H1 := Lib.hid (made_ok n LA nl cl l TA nt ct W0 h1 h2 (hl.fr H0.out))
  unfold MadeP at H1
  have HV := Lib.hid vNew_any
  have HFx := Lib.hid lFixed_any
  obtain ⟨N, eN, hN⟩ : ∃ N : Nat, s % 400 = (N : Int) ∧ N < 400 := ⟨(s % 400).toNat, by omega, by omega⟩
  have HPl := Lib.hid (fun W => (show Calls Try.prog 39 #[.int .i64 s, .int .i64 400] W fun e w' => e = .returned (.int .i64 (N : Int)) ∧ W = w' by have := lPlace_any s 400 (by decide) (by decide) W; rwa [eN] at this))
  have HD : Hid (∀ W v p F, VmAt W v vm0 → MemAt W p F (layN n l nl) → Fr [] W0 W → W0.heap.size ≤ v → W0.heap.size ≤ F → W0.heap.size ≤ p → MW W0 W v p F b nt ct TA t vm0 (layN n l nl)) := Lib.hid (fun W v p F q1 q3 q7 q8 q9 q10 => MW.of q1 q3 ht hb H0.out (by omega) q7 q8 q9 q10)
  have hTl := ht.n_eq
  have hTz := ht.len
  rw [← hTl] at hTz
  simp only [maxLen] at hTz
  have HLn := Lib.hid (layN_n n l nl)
  have HTl := Lib.hid hTl
  have HTb := Lib.hid ht
  generalize layN n l nl = S0 at *
  obtain ⟨i9, hi0, hi1, hi2, hi3⟩ := info3 Try.info9k
  obtain ⟨C, hC⟩ : ∃ C : Int, (C = 0 ∧ okT S0.n t = true) ∨ (C = 84 ∧ okT S0.n t = false) := by
    cases hT : okT S0.n t
    · exact ⟨84, .inr ⟨rfl, rfl⟩⟩
    · exact ⟨0, .inl ⟨rfl, rfl⟩⟩
  have HCk : Hid (∀ W v p F, MW W0 W v p F b nt ct TA t vm0 S0 → Calls Try.prog 47 #[ptr p, .slice TA nt ct] W fun e w' => e = .returned (.int .i64 C) ∧ Fr [] W w') := Lib.hid (fun W v p F h => by
    rcases hC with ⟨rfl, hT⟩ | ⟨rfl, hT⟩
    · exact Check_ok b p F S0.n nt ct TA t W h.tb h.mem.hd hT
    · exact Check_no b p F S0.n nt ct TA t W h.tb h.mem.hd hT)
  have HC := Lib.hid hC
  clear hC
  have HZ := Lib.hid hZ
  obtain ⟨k0, k1, k2, k3⟩ := HK.out W0 (Fr.refl _ _)
  clear hl ht hb eN hTl hZ
  go_enter Try.func9, Try.ntmps9
  go_upto_if 51 with (first
    | (go_at_call 40; refine H1.out.mono ?_; clear H1; rintro e w1 ⟨p, F, q, G, rfl, hd⟩; have HM1 := Lib.hid hd; clear hd k0 k1 k2 k3)
    | (go_at_call 30; refine (HV.out _).mono ?_; clear HV; rintro e w3 ⟨rfl, hv, hf⟩; have HF3 := Lib.hid (HM1.out.fr.trans hf); obtain ⟨a0, a1, a2, a3⟩ := HK.out _ HF3.out; have hd0 := HD.out w3 w1.heap.size p F hv (HM1.out.m.to hf (by simp) (by simp)) HF3.out (by have := HM1.out.fr.size; omega) HM1.out.gp.2.1 HM1.out.gp.1; have HD3 := Lib.hid hd0; have hz3 : w.heap.size < w3.heap.size := by have := HF3.out.size; omega
       clear hd0 hv hf HD)
    | (go_at_call 47; refine (HCk.out _ _ _ _ (HD3.out.to ((Fr.refl [] _).alloc _))).mono ?_; clear HCk; rintro e w4 ⟨rfl, hf⟩
       have HD4 : Hid (MW W0 w4 w1.heap.size p F b nt ct TA t vm0 S0 ∧ OpB w4 w3.heap.size (opnK t 0) n) := Lib.hid ⟨HD3.out.to (((Fr.refl [] _).alloc _).trans hf), ⟨Z, (Blk.new w3 4 Z).fr hf (by simp), fun i hi => by rw [HZ.out i hi]; rfl⟩⟩
       clear hf)
    | fail)
  have HGB : Hid (b ≠ w3.heap.size ∧ W0.heap.size ≤ w3.heap.size) := Lib.hid ⟨Nat.ne_of_lt HD3.out.lt, HF3.out.size⟩
  clear a0 a1 a2 a3 hz3 HF3 HD3 HM1
  generalize w1.heap.size = v at *
  generalize w3.heap.size = g at *
  go_cut [11] (fun v11 wx => MW W0 wx v p F b nt ct TA t vm0 S0 ∧ OpB wx g (fun i => okT S0.n t && opn t i) n)
  case first =>
    rcases HC.out with ⟨rfl, hT⟩ | ⟨rfl, hT⟩
    · have HT := Lib.hid hT
      clear hT
      go_wp2_with fail
      go_loopg [11] nt (fun gg vi wr => ∃ (k : Nat), k + gg = nt ∧ vi = .int .i64 (k : Int) ∧ MW W0 wr v p F b nt ct TA t vm0 S0 ∧ OpB wr g (opnK t k) n)
      case atStart => exact ⟨0, by omega, rfl, HD4.out.1, HD4.out.2⟩
      case round =>
        obtain ⟨k, hk, rfl, hd, ho⟩ := hrel
        have Hk := Lib.hid hk
        have Hd := Lib.hid hd
        have Ho := Lib.hid ho
        obtain ⟨a0, a1, a2, a3⟩ := HK.out _ hd.fr
        by_cases hlt : k < nt
        · have hlt1 : (k : Int) < (nt : Int) := by omega
          have hk0 : (0 : Int) ≤ (k : Int) := by omega
          have hwk : IntKind.i64.wrap ((k : Int) + 1) = (k : Int) + 1 := IntWalk.i64_in _ (by omega)
          obtain ⟨pg, hpg⟩ : ∃ pg, t[k]? = some pg := ⟨_, List.getElem?_eq_getElem (by have := HTl.out; omega)⟩
          obtain ⟨f1, f2, f3, f4, f5⟩ := okT_at HT.out hpg
          rw [HLn.out] at f2
          obtain ⟨off, rfl, -, c0, c1⟩ := hd.tb.at_ hpg
          have Hpg := Lib.hid hpg
          by_cases hr : pg.r / 2 % 2 = 1
          · obtain ⟨f, hf⟩ : ∃ f : Nat, pg.f = (f : Int) := ⟨pg.f.toNat, by omega⟩
            have HS := Lib.hid (ho.put hpg hf hr)
            have HMs := Lib.hid (fun u => (show MW W0 (wr.setCell ⟨g, f, none⟩ u) v p F b nt ct (some ⟨b, off, none⟩) t vm0 S0 by obtain ⟨cs, hb, -⟩ := ho; exact hd.setB hb HGB.out.2 HGB.out.1 f u))
            obtain ⟨o1, o2⟩ := ho.cell (i := f) (by omega)
            have hrb : (pg.r / 2 % 2 == 1) = true := beq_iff_eq.2 hr
            rw [hf] at c0 f2
            have hf0 : (0 : Int) ≤ (f : Int) := by omega
            clear hk hd ho hpg f1 f5 hf hr
            generalize opnK t k f = ob at *
            generalize pg.r = pr at *
            go_wp2_with fail
            go_roundg (nt - (k + 1))
            case measure => have := Hk.out; omega
            case rel => exact ⟨k + 1, by have := Hk.out; omega, by go_num, HMs.out _, HS.out⟩
          · have HS := Lib.hid (ho.skip hpg hr)
            have hrb : (pg.r / 2 % 2 == 1) = false := beq_eq_false_iff_ne.2 hr
            clear hk hd ho hpg f1 f2 f5
            generalize pg.r = pr at *
            go_wp2_with fail
            go_roundg (nt - (k + 1))
            case measure => have := Hk.out; omega
            case rel => exact ⟨k + 1, by have := Hk.out; omega, by go_num, Hd.out, HS.out⟩
        · have hlt1 : ¬ (k : Int) < (nt : Int) := by omega
          obtain rfl : nt = k := by omega
          clear hk hd ho hlt
          go_wp2_with fail
          go_meet
          refine ⟨Hd.out, ?_⟩
          obtain ⟨cs, hb, hc⟩ := Ho.out
          refine ⟨cs, hb, fun i hi => ?_⟩
          have e : (okT S0.n t && opn t i) = opnK t nt i := by
            rw [HT.out, Bool.true_and]
            unfold opnK opn
            rw [HTl.out, List.take_length]
          rw [hc i hi]
          show some (Value.bool _) = some (Value.bool (okT S0.n t && opn t i))
          rw [e]
    · have HT := Lib.hid hT
      clear hT
      go_wp2_with fail
      go_meet
      refine ⟨HD4.out.1, ?_⟩
      obtain ⟨cs, hb, hc⟩ := HD4.out.2
      refine ⟨cs, hb, fun i hi => ?_⟩
      rw [hc i hi, HT.out]
      rfl
  case rest =>
    obtain ⟨hd, ho⟩ := hcut
    have HD5 := Lib.hid hd
    have HO5 := Lib.hid ho
    have HW5 := Lib.hid (World.ownsRow_made (base := wc.heap.size) (e := 9) (size := 1) wc #[] 0 (Nat.le_refl _) (by simp [maxLen]) (by simp))
    have HF5 := Lib.hid ((Fr.refl [] wc).alloc (.cells #[] 9))
    clear hd ho HD4
    go_wp2_with fail
    go_loopg [12, 13] n (fun gg v12 vi wr => ∃ (j : Nat) (A : Option Addr) (c : Nat), j + gg = n ∧ vi = .int .i64 (j : Int) ∧ v12 = .slice A j c ∧ wr.ownsRow wc.heap.size 9 1 (.slice A j c) j (wasV S0 j) ∧ Fr [] wc wr)
    case atStart => exact ⟨0, _, _, by omega, rfl, rfl, HW5.out, HF5.out⟩
    case round =>
      obtain ⟨j, A, c, hj, rfl, rfl, how, hf⟩ := hrel
      have Hj := Lib.hid hj
      have How := Lib.hid how
      have Hf := Lib.hid hf
      obtain ⟨a0, a1, a2, a3⟩ := HK.out _ (HD5.out.fr.trans hf)
      by_cases hlt : j < n
      · have hlt1 : (j : Int) < (n : Int) := by omega
        have hj0 : (0 : Int) ≤ (j : Int) := by omega
        have hwj : IntKind.i64.wrap ((j : Int) + 1) = (j : Int) + 1 := IntWalk.i64_in _ (by omega)
        have HFr := Lib.hid (Frame_ok p F S0 wr j (HD5.out.mem.to hf (by simp) (by simp)) (by rw [HLn.out]; omega))
        have HXS := Lib.hid (wasV_succ S0 j)
        clear hj how hf
        generalize frS S0 j = V at *
        generalize wasV S0 j = XS at *
        go_wp2_with (first
          | (go_at_call 48; refine HFr.out.mono ?_; rintro e w6 ⟨rfl, rfl⟩)
          | (at_builtin; go_must (refine wpList_append_own _ rfl (.tmp 89) (.tmp 91) 70 rfl wc.heap.size 9 i9 (.string ⟨#[]⟩) 1 16 Try.underlying70 hi0 hi1 hi2 hi3 rfl (Nat.succ_pos 0) (.slice A j c) j XS rfl (own_fr How.out ((Fr.refl [] wr).alloc _) (by simp)) ⟨wr.heap.size, 0, none⟩ 1 1 [.string V] rfl rfl (news1 ((Blk.new wr 9 #[.string V]).cell 0)) (by simp [Value.oneCell']) (by simp only [maxLen]; omega) (by omega) (by have := Hf.out.size; simp; omega) ?_; intro v1 w3 hown1 hg1 hnn; have HO3 := Lib.hid (And.intro hown1 ((Hf.out.alloc _).own (own_fr How.out ((Fr.refl [] wr).alloc _) (by simp)) hg1)); obtain ⟨A1, c1, rfl⟩ := own_shape hown1; clear hown1 hg1 hnn))
          | fail)
        go_roundg (n - (j + 1))
        case measure => have := Hj.out; omega
        case rel => exact ⟨j + 1, _, _, by have := Hj.out; omega, by go_num, rfl, by rw [HXS.out]; exact HO3.out.1, HO3.out.2⟩
      · have hlt1 : ¬ (j : Int) < (n : Int) := by omega
        obtain rfl : n = j := by omega
        obtain ⟨gw, cw, ew, hwas⟩ := WasT.of_own how h1
        injection ew with ew1 ew2 ew3
        subst ew1 ew3
        have HI0 : Hid (KpI W0 wr v p F b nt ct TA t vm0 S0 S0 g gw n (fun i => okT S0.n t && opn t i)) := Lib.hid ⟨HD5.out.to hf, KpS_.refl _ _, HO5.out.fr hf (by simp), hwas⟩
        clear hj how hf hlt hwas How Hf HO5 HD5 HW5 HF5
        go_wp2_with fail
        clear a0 a1 a2 a3
        obtain ⟨wr1, rfl⟩ : ∃ W, W = wr := ⟨_, rfl⟩
        obtain ⟨o, ho⟩ : ∃ o, (fun i => okT S0.n t && opn t i) = o := ⟨_, rfl⟩
        have HOo : Hid (∀ i, (okT S0.n t && opn t i) = o i) := Lib.hid (fun i => by rw [← ho])
        rw [ho] at HI0
        clear ho
        go_loopg [16] N (fun gg vi wr => ∃ (j : Nat) (x : Vm) (st : St), j + gg = N ∧ vi = .int .i64 (j : Int) ∧ KpI W0 wr v p F b nt ct TA t x st S0 g gw n o)
        case atStart => exact ⟨0, vm0, S0, by omega, rfl, HI0.out⟩
        case round =>
          obtain ⟨j, x, st, hj, rfl, hd⟩ := hrel
          have Hj := Lib.hid hj
          have Hd := Lib.hid hd
          obtain ⟨a0, a1, a2, a3⟩ := HK.out _ hd.mw.fr
          have HKd := Lib.hid (fun W (h : Fr [] W0 W) => HK.out W h)
          by_cases hlt : j < N
          · have hlt1 : (j : Int) < (N : Int) := by omega
            have hj0 : (0 : Int) ≤ (j : Int) := by omega
            have hwj : IntKind.i64.wrap ((j : Int) + 1) = (j : Int) + 1 := IntWalk.i64_in _ (by omega)
            obtain ⟨q4, q5⟩ := stepV_ok x st t
            obtain ⟨⟨EV, X, T1⟩, hs1⟩ : ∃ q, stepV x st t = q := ⟨_, rfl⟩
            rw [hs1] at q4 q5
            obtain ⟨ek, en⟩ := EV
            simp only at q4 q5
            unfold EvOk at q4
            simp only at q4
            have HS1 := Lib.hid (fun W (h : KpI W0 W v p F b nt ct TA t x st S0 g gw n o) => h.step hs1)
            have HPX := Lib.hid (fun W (h : VmAt W v X) => vPlace_any h)
            have hsz := (HB2.out.fr hd.mw.fr (by simp)).lt
            clear hj hd hs1
            rcases q4 with e | ⟨e, rfl⟩ | ⟨e, rfl⟩ | ⟨e, hw⟩
            · subst e
              clear q5
              go_wp2_with (first
                | (go_at_call 39; refine (HPl.out _).mono ?_; rintro e w6 ⟨rfl, rfl⟩)
                | (go_at_call 34; refine (HS1.out _ Hd.out).mono ?_; clear Hd; rintro e w7 ⟨rfl, hd7, -⟩; have Hd7 := Lib.hid hd7; obtain ⟨b0, b1, b2, b3⟩ := HKd.out _ hd7.mw.fr; have hz7 : w.heap.size < w7.heap.size := by have := hd7.mw.fr.size; omega
                   clear hd7)
                | (go_at_call 38; refine (HPX.out _ Hd7.out.mw.vm).mono ?_; rintro e w7b ⟨rfl, rfl⟩)
                | fail)
              go_roundg (N - (j + 1))
              case measure => have := Hj.out; omega
              case rel => exact ⟨j + 1, X, T1, by have := Hj.out; omega, by go_num, Hd7.out.to (by repeat (first | exact Fr.refl _ _ | (refine Fr.alloc ?_ _) | (refine Fr.setCell ?_ (.inr (by simp; try omega)) _)))⟩
            · subst e
              obtain rfl := q5 (by decide)
              clear q5
              go_wp2_with (first
                | (go_at_call 39; refine (HPl.out _).mono ?_; rintro e w6 ⟨rfl, rfl⟩)
                | (go_at_call 34; have _t := Hd; refine (HS1.out _ Hd.out).mono ?_; clear Hd _t; rintro e w7 ⟨rfl, hd7, -⟩; have Hd7 := Lib.hid hd7; obtain ⟨b0, b1, b2, b3⟩ := HKd.out _ hd7.mw.fr; have hz7 : w.heap.size < w7.heap.size := by have := hd7.mw.fr.size; omega
                   clear hd7)
                | (go_at_call 38; have _t := b3; refine (HPX.out _ Hd7.out.mw.vm).mono ?_; clear _t b3; rintro e w7b ⟨rfl, rfl⟩)
                | (go_at_call 34; refine (HS1.out _ (Hd7.out.to (by repeat (first | exact Fr.refl _ _ | (refine Fr.alloc ?_ _) | (refine Fr.setCell ?_ (.inr (by simp; try omega)) _))))).mono ?_; rintro e w8 ⟨rfl, hd8, hf8⟩; have Hd8 := Lib.hid hd8
                   have hb8 := (Blk.new w7 65 #[.int .i64 1, .int .i64 en]).fr hf8 (by have := (Hd7.out.to ((Fr.refl [] _).alloc _)).ev (Blk.new w7 65 #[.int .i64 1, .int .i64 en]); simp [this.1, this.2])
                   have d0 : w8.cell? ⟨w7.heap.size, 0, none⟩ = some (.int .i64 1) := hb8.cell 0
                   have d1 : w8.cell? ⟨w7.heap.size, 1, none⟩ = some (.int .i64 en) := hb8.cell 1
                   have hz8 := hb8.lt
                   clear hd8 hf8 hb8)
                | (go_at_call 38; refine (HPX.out _ (Hd8.out.to (by repeat (first | exact Fr.refl _ _ | (refine Fr.alloc ?_ _) | (refine Fr.setCell ?_ (.inr (by simp; try omega)) _)))).mw.vm).mono ?_; rintro e w8b ⟨rfl, rfl⟩)
                | fail)
              go_roundg (N - (j + 1))
              case measure => have := Hj.out; omega
              case rel => exact ⟨j + 1, X, T1, by have := Hj.out; omega, by go_num, Hd8.out.to (by repeat (first | exact Fr.refl _ _ | (refine Fr.alloc ?_ _) | (refine Fr.setCell ?_ (.inr (by simp; try omega)) _)))⟩
            · subst e
              obtain rfl := q5 (by decide)
              clear q5
              go_wp2_with (first
                | (go_at_call 39; refine (HPl.out _).mono ?_; rintro e w6 ⟨rfl, rfl⟩)
                | (go_at_call 34; have _t := Hd; refine (HS1.out _ Hd.out).mono ?_; clear Hd _t; rintro e w7 ⟨rfl, hd7, -⟩; have Hd7 := Lib.hid hd7; obtain ⟨b0, b1, b2, b3⟩ := HKd.out _ hd7.mw.fr; have hz7 : w.heap.size < w7.heap.size := by have := hd7.mw.fr.size; omega
                   clear hd7)
                | (go_at_call 38; have _t := b3; refine (HPX.out _ Hd7.out.mw.vm).mono ?_; clear _t b3; rintro e w7b ⟨rfl, rfl⟩)
                | (go_at_call 34; refine (HS1.out _ (Hd7.out.to (by repeat (first | exact Fr.refl _ _ | (refine Fr.alloc ?_ _) | (refine Fr.setCell ?_ (.inr (by simp; try omega)) _))))).mono ?_; rintro e w8 ⟨rfl, hd8, hf8⟩; have Hd8 := Lib.hid hd8
                   have hb8 := (Blk.new w7 65 #[.int .i64 2, .int .i64 en]).fr hf8 (by have := (Hd7.out.to ((Fr.refl [] _).alloc _)).ev (Blk.new w7 65 #[.int .i64 2, .int .i64 en]); simp [this.1, this.2])
                   have d0 : w8.cell? ⟨w7.heap.size, 0, none⟩ = some (.int .i64 2) := hb8.cell 0
                   have d1 : w8.cell? ⟨w7.heap.size, 1, none⟩ = some (.int .i64 en) := hb8.cell 1
                   have hz8 := hb8.lt
                   clear hd8 hf8 hb8)
                | (go_at_call 38; refine (HPX.out _ (Hd8.out.to (by repeat (first | exact Fr.refl _ _ | (refine Fr.alloc ?_ _) | (refine Fr.setCell ?_ (.inr (by simp; try omega)) _)))).mw.vm).mono ?_; rintro e w8b ⟨rfl, rfl⟩)
                | fail)
              go_roundg (N - (j + 1))
              case measure => have := Hj.out; omega
              case rel => exact ⟨j + 1, X, T1, by have := Hj.out; omega, by go_num, Hd8.out.to (by repeat (first | exact Fr.refl _ _ | (refine Fr.alloc ?_ _) | (refine Fr.setCell ?_ (.inr (by simp; try omega)) _)))⟩
            · subst e
              have HW3 := Lib.hid (fun W (h : VmAt W v X) => (show Calls Try.prog 35 #[ptr v] W fun e w' => e = .returned (.bool true) ∧ W = w' by have := vWaits_any h; rwa [hw] at this))
              have HA3 := Lib.hid (fun W (h : KpI W0 W v p F b nt ct TA t X T1 S0 g gw n o) (k c : Nat) (hb : Blk W k 3 #[.int .i64 0, .int .i64 0, .int .i64 0]) => h.yes (c := c) hw hb)
              clear q5 hw
              go_wp2_with (first
                | (go_at_call 39; refine (HPl.out _).mono ?_; rintro e w6 ⟨rfl, rfl⟩)
                | (go_at_call 34; refine (HS1.out _ Hd.out).mono ?_; clear Hd; rintro e w7 ⟨rfl, hd7, -⟩; have Hd7 := Lib.hid hd7; obtain ⟨b0, b1, b2, b3⟩ := HKd.out _ hd7.mw.fr; have hz7 : w.heap.size < w7.heap.size := by have := hd7.mw.fr.size; omega
                   clear hd7)
                | (go_at_call 38; refine (HPX.out _ Hd7.out.mw.vm).mono ?_; rintro e w7b ⟨rfl, rfl⟩)
                | (go_at_call 35; refine (HW3.out _ (Hd7.out.to (by repeat (first | exact Fr.refl _ _ | (refine Fr.alloc ?_ _) | (refine Fr.setCell ?_ (.inr (by simp; try omega)) _)))).mw.vm).mono ?_; rintro e w8 ⟨rfl, rfl⟩)
                | (go_at_call 33; refine (HA3.out _ (Hd7.out.to (by repeat (first | exact Fr.refl _ _ | (refine Fr.alloc ?_ _) | (refine Fr.setCell ?_ (.inr (by simp; try omega)) _)))) _ _ (Blk.new' (by simp))).mono ?_; rintro e w9 ⟨rfl, hd9⟩)
                | fail)
              go_roundg (N - (j + 1))
              case measure => have := Hj.out; omega
              case rel => exact ⟨j + 1, _, T1, by have := Hj.out; omega, by go_num, hd9⟩
          · have hlt1 : ¬ (j : Int) < (N : Int) := by omega
            have hlt2 : decide (j < N) = false := decide_eq_false hlt
            clear hj hd hlt
            go_wp2_with (first
              | (go_at_call 39; refine (HPl.out _).mono ?_; rintro e w6 ⟨rfl, rfl⟩)
              | fail)
            clear a0 a1 a2 a3
            obtain ⟨wr2, rfl⟩ : ∃ W, W = wr := ⟨_, rfl⟩
            go_loopg [20] n (fun gg vi wr => ∃ (k : Nat), k + gg = n ∧ vi = .int .i64 (k : Int) ∧ wr = wr2)
            case atStart => exact ⟨0, by omega, rfl, rfl⟩
            case round =>
              obtain ⟨k, hk, rfl, rfl⟩ := hrel
              have Hk2 := Lib.hid hk
              obtain ⟨a0, a1, a2, a3⟩ := HK.out _ Hd.out.mw.fr
              by_cases hlk : k < n
              · have hlk1 : (k : Int) < (n : Int) := by omega
                have hk0 : (0 : Int) ≤ (k : Int) := by omega
                have hwk : IntKind.i64.wrap ((k : Int) + 1) = (k : Int) + 1 := IntWalk.i64_in _ (by omega)
                have HFr := Lib.hid (Frame_ok p F st wr k Hd.out.mw.mem (by rw [Hd.out.kp.n, HLn.out]; omega))
                obtain ⟨o1, -⟩ := Hd.out.op.cell hlk
                have w1 := Hd.out.was.cell hlk
                cases ho : o k with
                | true =>
                  rw [ho] at o1
                  clear hk ho
                  generalize frS st k = V1 at *
                  generalize frS S0 k = V0 at *
                  go_wp2_with (first
                    | (go_at_call 48; refine HFr.out.mono ?_; rintro e w6 ⟨rfl, rfl⟩)
                    | fail)
                  go_roundg (n - (k + 1))
                  case measure => have := Hk2.out; omega
                  case rel => exact ⟨k + 1, by have := Hk2.out; omega, by go_num, rfl⟩
                | false =>
                  rw [ho] at o1
                  have hV : frS st k = frS S0 k := Hd.out.kp.frame (by have := HOo.out k; rw [ho] at this; exact this)
                  rw [hV] at HFr
                  clear hk ho hV
                  generalize frS S0 k = V0 at *
                  go_wp2_with (first
                    | (go_at_call 48; refine HFr.out.mono ?_; rintro e w6 ⟨rfl, rfl⟩)
                    | fail)
                  go_roundg (n - (k + 1))
                  case measure => have := Hk2.out; omega
                  case rel => exact ⟨k + 1, by have := Hk2.out; omega, by go_num, rfl⟩
              · have hlk1 : ¬ (k : Int) < (n : Int) := by omega
                clear hk
                go_wp2_with (first
                  | (go_at_call 37; refine (HFx.out _).mono ?_; rintro e w6 ⟨rfl, hf6⟩)
                  | fail)
                go_ret
                exact ⟨rfl, (H0.out.trans Hd.out.mw.fr).trans hf6⟩
theorem keeps_walk (n : Int) (LA : Option Addr) (nl cl : Nat) (l : Nat → ByteArray) (TA : Option Addr) (nt ct b : Nat) (t : List Pg) (s : Int) (RA : Option Addr) (na ca : Nat) (w : World) (hl : PrZ w LA nl l) (ht : Tb w b (.slice TA nt ct) t) (hb : b < w.heap.size ∨ b = 0) :
    Calls Try.prog 9 #[.agg #[.int .i64 n, .slice LA nl cl, .slice TA nt ct], .agg #[.int .i64 s, .slice RA na ca]] w fun e w' => e = .returned (.bool true) ∧ Fr [] w w' := by
  by_cases h : n < 1 ∨ 160 < n
  · exact keeps_bad n LA nl cl TA nt ct s RA na ca w h
  · obtain ⟨k, rfl⟩ := Int.eq_ofNat_of_zero_le (by omega : 0 ≤ n)
    exact keeps_ok k (by omega) (by omega) LA nl cl l TA nt ct b t s RA na ca w hl ht hb
end Go.Proofs.Ytonongaakieciaa

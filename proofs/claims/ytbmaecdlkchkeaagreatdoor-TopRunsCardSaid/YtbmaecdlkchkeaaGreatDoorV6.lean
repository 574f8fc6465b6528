/- A scope with several labels, each of which leads to labels that stand lower. The machine's step: what stands at the labels, and what is walked from there. The machine's step: at the label 'touch'. The machine's step: what is kept on the way. -/
import Derived.Test.YtbmaecdlkchkeaaGreatDoorV2
import Derived.ScopeJumps
import Derived.BigQuiet
import Derived.Deep.QuietTactic
import Derived.RegionTactic
namespace Go.Proofs.YtbmaecdlkchkeaaGreatDoor
open Go.RowKit
/-- As Q; by a goto to label l: J l. -/
def jumps (J : Nat → Act → World → Prop) (Q : Exit → Act → World → Prop) : Exit → Act → World → Prop
  | .goto l, a, w => J l a w
  | e, a, w => Q e a w
section
variable {P : Program} {a : Act} {w : World} {Q : Exit → Act → World → Prop}
theorem wp_scope_labels {c : Code} (J : Nat → Act → World → Prop) (μ : Nat → Nat)
    (pass : ∀ l a w, J l a w → ∃ rest, findLabel c l = some rest ∧ rest.wp P (jumps (fun l' a' w' => J l' a' w' ∧ μ l' < μ l) Q) a w)
    (first : c.wp P (jumps J Q) a w) : (Code.scope c).wp P Q a w := by
  intro b k cs
  have key : ∀ n l a w, μ l = n → J l a w → ∃ rest, findLabel c l = some rest ∧ ∃ e a' w', Q e a' w' ∧ Arrives P (lone (b.at a (.code rest :: .inScope c :: k)) cs w) b k cs e a' w' := by
    intro n
    induction n using Nat.strongRecOn with
    | _ n ih =>
      intro l a w hn hJ
      obtain ⟨rest, hf, hw⟩ := pass l a w hJ
      refine ⟨rest, hf, ?_⟩
      obtain ⟨e, a₁, w₁, hq, harr⟩ := hw b (.inScope c :: k) cs
      cases e with
      | normal => exact ⟨.normal, a₁, w₁, hq, Steps.trans harr (.one step_inScope)⟩
      | exit id => exact ⟨.exit id, a₁, w₁, hq, fun k' hk => harr k' (by simp [exitTo, hk])⟩
      | goto l' =>
        obtain ⟨hJ', hlt⟩ := hq
        obtain ⟨rest', hf', e₂, a₂, w₂, hq₂, harr₂⟩ := ih _ (by omega) l' a₁ w₁ rfl hJ'
        exact ⟨e₂, a₂, w₂, hq₂, .of_steps (harr _ (by simp [gotoIn, hf'])) harr₂⟩
      | ret => exact ⟨_, a₁, w₁, hq, harr⟩
      | panic ch => exact ⟨_, a₁, w₁, hq, harr⟩
      | outgrown => exact ⟨_, a₁, w₁, hq, harr⟩
  obtain ⟨e, a₁, w₁, hq, harr⟩ := first b (.inScope c :: k) cs
  cases e with
  | normal => exact ⟨.normal, a₁, w₁, hq, .head step_scope (Steps.trans harr (.one step_inScope))⟩
  | exit id => exact ⟨.exit id, a₁, w₁, hq, fun k' hk => .head step_scope (harr k' (by simp [exitTo, hk]))⟩
  | goto l' =>
    obtain ⟨rest', hf', e₂, a₂, w₂, hq₂, harr₂⟩ := key _ l' a₁ w₁ rfl hq
    exact ⟨e₂, a₂, w₂, hq₂, .of_steps (.head step_scope (harr _ (by simp [gotoIn, hf']))) harr₂⟩
  | ret => exact ⟨_, a₁, w₁, hq, .of_steps (.one step_scope) harr⟩
  | panic ch => exact ⟨_, a₁, w₁, hq, .of_steps (.one step_scope) harr⟩
  | outgrown => exact ⟨_, a₁, w₁, hq, .of_steps (.one step_scope) harr⟩
end
end Go.Proofs.YtbmaecdlkchkeaaGreatDoor
namespace Go.Proofs.YtbmaecdlkchkeaaGreatDoor
open Go.RowKit
set_option linter.unusedVariables false
set_option linter.unusedSimpArgs false
set_option maxRecDepth 100000
theorem list_exp (l : List Value) : ∀ n, l.length = n → l = (List.range n).map fun i => l.getD i undef := by
  intro n h
  refine List.ext_getElem? fun j => ?_
  by_cases hj : j < n
  · simp [hj, h]
  · rw [List.getElem?_eq_none (by omega), List.getElem?_eq_none (by simp; omega)]
theorem expand202 (ts : Array Value) (h : ts.size = 202) : ts = #[ts.getD 0 undef, ts.getD 1 undef, ts.getD 2 undef, ts.getD 3 undef, ts.getD 4 undef, ts.getD 5 undef, ts.getD 6 undef, ts.getD 7 undef, ts.getD 8 undef, ts.getD 9 undef, ts.getD 10 undef, ts.getD 11 undef, ts.getD 12 undef, ts.getD 13 undef, ts.getD 14 undef, ts.getD 15 undef, ts.getD 16 undef, ts.getD 17 undef, ts.getD 18 undef, ts.getD 19 undef, ts.getD 20 undef, ts.getD 21 undef, ts.getD 22 undef, ts.getD 23 undef, ts.getD 24 undef, ts.getD 25 undef, ts.getD 26 undef, ts.getD 27 undef, ts.getD 28 undef, ts.getD 29 undef, ts.getD 30 undef, ts.getD 31 undef, ts.getD 32 undef, ts.getD 33 undef, ts.getD 34 undef, ts.getD 35 undef, ts.getD 36 undef, ts.getD 37 undef, ts.getD 38 undef, ts.getD 39 undef, ts.getD 40 undef, ts.getD 41 undef, ts.getD 42 undef, ts.getD 43 undef, ts.getD 44 undef, ts.getD 45 undef, ts.getD 46 undef, ts.getD 47 undef, ts.getD 48 undef, ts.getD 49 undef, ts.getD 50 undef, ts.getD 51 undef, ts.getD 52 undef, ts.getD 53 undef, ts.getD 54 undef, ts.getD 55 undef, ts.getD 56 undef, ts.getD 57 undef, ts.getD 58 undef, ts.getD 59 undef, ts.getD 60 undef, ts.getD 61 undef, ts.getD 62 undef, ts.getD 63 undef, ts.getD 64 undef, ts.getD 65 undef, ts.getD 66 undef, ts.getD 67 undef, ts.getD 68 undef, ts.getD 69 undef, ts.getD 70 undef, ts.getD 71 undef, ts.getD 72 undef, ts.getD 73 undef, ts.getD 74 undef, ts.getD 75 undef, ts.getD 76 undef, ts.getD 77 undef, ts.getD 78 undef, ts.getD 79 undef, ts.getD 80 undef, ts.getD 81 undef, ts.getD 82 undef, ts.getD 83 undef, ts.getD 84 undef, ts.getD 85 undef, ts.getD 86 undef, ts.getD 87 undef, ts.getD 88 undef, ts.getD 89 undef, ts.getD 90 undef, ts.getD 91 undef, ts.getD 92 undef, ts.getD 93 undef, ts.getD 94 undef, ts.getD 95 undef, ts.getD 96 undef, ts.getD 97 undef, ts.getD 98 undef, ts.getD 99 undef, ts.getD 100 undef, ts.getD 101 undef, ts.getD 102 undef, ts.getD 103 undef, ts.getD 104 undef, ts.getD 105 undef, ts.getD 106 undef, ts.getD 107 undef, ts.getD 108 undef, ts.getD 109 undef, ts.getD 110 undef, ts.getD 111 undef, ts.getD 112 undef, ts.getD 113 undef, ts.getD 114 undef, ts.getD 115 undef, ts.getD 116 undef, ts.getD 117 undef, ts.getD 118 undef, ts.getD 119 undef, ts.getD 120 undef, ts.getD 121 undef, ts.getD 122 undef, ts.getD 123 undef, ts.getD 124 undef, ts.getD 125 undef, ts.getD 126 undef, ts.getD 127 undef, ts.getD 128 undef, ts.getD 129 undef, ts.getD 130 undef, ts.getD 131 undef, ts.getD 132 undef, ts.getD 133 undef, ts.getD 134 undef, ts.getD 135 undef, ts.getD 136 undef, ts.getD 137 undef, ts.getD 138 undef, ts.getD 139 undef, ts.getD 140 undef, ts.getD 141 undef, ts.getD 142 undef, ts.getD 143 undef, ts.getD 144 undef, ts.getD 145 undef, ts.getD 146 undef, ts.getD 147 undef, ts.getD 148 undef, ts.getD 149 undef, ts.getD 150 undef, ts.getD 151 undef, ts.getD 152 undef, ts.getD 153 undef, ts.getD 154 undef, ts.getD 155 undef, ts.getD 156 undef, ts.getD 157 undef, ts.getD 158 undef, ts.getD 159 undef, ts.getD 160 undef, ts.getD 161 undef, ts.getD 162 undef, ts.getD 163 undef, ts.getD 164 undef, ts.getD 165 undef, ts.getD 166 undef, ts.getD 167 undef, ts.getD 168 undef, ts.getD 169 undef, ts.getD 170 undef, ts.getD 171 undef, ts.getD 172 undef, ts.getD 173 undef, ts.getD 174 undef, ts.getD 175 undef, ts.getD 176 undef, ts.getD 177 undef, ts.getD 178 undef, ts.getD 179 undef, ts.getD 180 undef, ts.getD 181 undef, ts.getD 182 undef, ts.getD 183 undef, ts.getD 184 undef, ts.getD 185 undef, ts.getD 186 undef, ts.getD 187 undef, ts.getD 188 undef, ts.getD 189 undef, ts.getD 190 undef, ts.getD 191 undef, ts.getD 192 undef, ts.getD 193 undef, ts.getD 194 undef, ts.getD 195 undef, ts.getD 196 undef, ts.getD 197 undef, ts.getD 198 undef, ts.getD 199 undef, ts.getD 200 undef, ts.getD 201 undef] := by
  obtain ⟨l⟩ := ts
  have h1 := list_exp l 202 h
  have h2 : ∀ i, (⟨l⟩ : Array Value).getD i undef = l.getD i undef := fun i => by by_cases h : i < l.length <;> simp [Array.getD, h]
  simp only [h2]
  exact congrArg Array.mk h1
/-- What a step comes to. -/
def StepQ (w : World) (v p F : Nat) (E : Int × Int) (X : Vm) (S : St) (e : Ending) (w' : World) : Prop :=
  e = .returned (.agg #[.int .i64 E.1, .int .i64 E.2]) ∧ VmAt w' v X ∧ MemAt w' p F S ∧ Fr [v, F] w w'
theorem MemAt.ne_vm {w : World} {p F v : Nat} {st : St} {x : Vm} (h : MemAt w p F st) (hv : VmAt w v x) : p ≠ v ∧ F ≠ v := by
  obtain ⟨⟨⟨c2, h2, -⟩, -, -⟩, ⟨c3, h3, -⟩⟩ := h
  exact ⟨Blk.ne_ h2 hv.hb (by decide), Blk.ne_ h3 hv.hb (by decide)⟩
theorem MemAt.ne_ev {w : World} {p F g : Nat} {st : St} {t : TypeId} {cs : Array Value} (h : MemAt w p F st) (hb : Blk w g t cs) (h1 : t ≠ 123) (h2 : t ≠ 125) : p ≠ g ∧ F ≠ g := by
  obtain ⟨⟨⟨c2, k2, -⟩, -, -⟩, ⟨c3, k3, -⟩⟩ := h
  exact ⟨Blk.ne_ k2 hb (fun e => h1 e.symm), Blk.ne_ k3 hb (fun e => h2 e.symm)⟩
/-- At the label 'done'. -/
def JD (w : World) (v p F ev : Nat) (E : Int × Int) (X : Vm) (S : St) (a : Act) (W : World) : Prop :=
  ∃ ts : Array Value, a = { tmps := ts, defers := [] } ∧ ts.size = 202 ∧ ts.getD 0 undef = ptr v ∧ ts.getD 6 undef = ptr ev ∧ ∃ (nx : Int) (x : Vm), ts.getD 13 undef = .int .u32 nx ∧ u32b nx ∧ VmAt W v x ∧ putP x nx = X ∧ MemAt W p F S ∧ Fr [v, F] w W ∧ Blk W ev 39 #[.int .i64 E.1, .int .i64 E.2] ∧ w.heap.size ≤ ev
/-- The end of a step. -/
theorem done_end {w W : World} {v p F ev : Nat} {E : Int × Int} {X : Vm} {S : St} {nx : Int} {x : Vm} (hn : u32b nx) (hv : VmAt W v x) (hX : putP x nx = X) (hm : MemAt W p F S) (hf : Fr [v, F] w W) (hb : Blk W ev 39 #[.int .i64 E.1, .int .i64 E.2]) (he : w.heap.size ≤ ev) :
    Blk (((W.setCell ⟨v, 16, none⟩ (.int .u32 nx)).setCell ⟨ev, 0, none⟩ (.int .i64 E.1)).setCell ⟨ev, 1, none⟩ (.int .i64 E.2)) ev 39 #[.int .i64 E.1, .int .i64 E.2] ∧ StepQ w v p F E X S (.returned (.agg #[.int .i64 E.1, .int .i64 E.2])) (((W.setCell ⟨v, 16, none⟩ (.int .u32 nx)).setCell ⟨ev, 0, none⟩ (.int .i64 E.1)).setCell ⟨ev, 1, none⟩ (.int .i64 E.2)) := by
  obtain ⟨n1, n2⟩ := hm.ne_vm hv
  obtain ⟨n3, n4⟩ := hm.ne_ev hb (by decide) (by decide)
  have n5 : v ≠ ev := Blk.ne_ hv.hb hb (by decide)
  have b1 := hb.far (p := ⟨v, 16, none⟩) (fun e => n5 e.symm) (.int .u32 nx)
  refine ⟨(b1.set_ 0 _).set_ 1 _, rfl, ?_, ?_, ?_⟩
  · rw [← hX]
    exact ((hv.setP hn).fr ((Fr.refl [ev] _).setCell (p := ⟨ev, 0, none⟩) (.inl (by simp)) _) (by simp; omega)).fr ((Fr.refl [ev] _).setCell (p := ⟨ev, 1, none⟩) (.inl (by simp)) _) (by simp; omega)
  · exact ((hm.to ((Fr.refl [v] _).setCell (p := ⟨v, 16, none⟩) (.inl (by simp)) _) (by simp; omega) (by simp; omega)).to ((Fr.refl [ev] _).setCell (p := ⟨ev, 0, none⟩) (.inl (by simp)) _) (by simp; omega) (by simp; omega)).to ((Fr.refl [ev] _).setCell (p := ⟨ev, 1, none⟩) (.inl (by simp)) _) (by simp; omega) (by simp; omega)
  · exact ((hf.setCell (p := ⟨v, 16, none⟩) (.inl (by simp)) _).setCell (p := ⟨ev, 0, none⟩) (.inr he) _).setCell (p := ⟨ev, 1, none⟩) (.inr he) _
set_option maxHeartbeats 4000000 in
theorem pass_done (r c : Code) (hc : Tryz.f11.body = some (.seq r (.scope c))) (J : Nat → Act → World → Prop) (w : World) (v p F ev : Nat) (E : Int × Int) (X : Vm) (S : St) (a : Act) (W : World) (h : JD w v p F ev E X S a W) :
    ∃ rest, findLabel c 0 = some rest ∧ rest.wp Tryz.prog (jumps J (bodyPost Tryz.prog Tryz.f11 (StepQ w v p F E X S))) a W := by
  cases hc
  refine ⟨_, rfl, ?_⟩
  obtain ⟨ts, rfl, hs, h0, h6, nx, x, h13, hn, hv, hX, hm, hf, hb, he⟩ := h
  rw [expand202 ts hs, h0, h6, h13]
  have HE := Lib.hid (done_end hn hv hX hm hf hb he)
  have c16 := hv.place
  have cf := hv.frozen
  have e0 : W.cell? ⟨ev, 0, none⟩ = some (.int .i64 E.1) := hb.cell 0
  have e1 : W.cell? ⟨ev, 1, none⟩ = some (.int .i64 E.2) := hb.cell 1
  have ef := hb.frozen
  have hne : v ≠ ev := Blk.ne_ hv.hb hb (by decide)
  have hne2 : ev ≠ v := fun e => hne e.symm
  clear hs h0 h6 h13 hn hv hX hm hf hb he
  refine wp_seq (wp_skip ?_)
  go_wp2
  unfold jumps
  refine bodyPost_ret (v := .agg #[.int .i64 E.1, .int .i64 E.2]) ?_ rfl HE.out.2
  exact results_cell_row Tryz.results11 _ _ ev 39 _ (0, 0) _ rfl HE.out.1 Tryz.underlying39 rfl (by kernel_rfl)
/-- At the label 'jump'. -/
def JJ (w : World) (v p F ev : Nat) (E : Int × Int) (X : Vm) (S : St) (a : Act) (W : World) : Prop :=
  ∃ ts : Array Value, a = { tmps := ts, defers := [] } ∧ ts.size = 202 ∧ ts.getD 0 undef = ptr v ∧ ts.getD 6 undef = ptr ev ∧ ∃ (ii : Nat) (nx o a' b' m : Int) (x : Vm), ts.getD 7 undef = ptr ii ∧ ts.getD 13 undef = .int .u32 nx ∧ Blk W ii 55 #[.int .i64 o, .int .i64 a', .int .i64 b', .int .i64 m] ∧ VmAt W v x ∧ putP x ((nx + 4 * m) % 4294967296) = X ∧ MemAt W p F S ∧ Fr [v, F] w W ∧ Blk W ev 39 #[.int .i64 E.1, .int .i64 E.2] ∧ w.heap.size ≤ ev
set_option maxHeartbeats 4000000 in
theorem pass_jump (r c : Code) (hc : Tryz.f11.body = some (.seq r (.scope c))) (J : Nat → Act → World → Prop) (w : World) (v p F ev : Nat) (E : Int × Int) (X : Vm) (S : St) (a : Act) (W : World) (h : JJ w v p F ev E X S a W) :
    ∃ rest, findLabel c 2 = some rest ∧ rest.wp Tryz.prog (jumps J (bodyPost Tryz.prog Tryz.f11 (StepQ w v p F E X S))) a W := by
  cases hc
  refine ⟨_, rfl, ?_⟩
  obtain ⟨ts, rfl, hs, h0, h6, ii, nx, o, a', b', m, x, h7, h13, hi, hv, hX, hm, hf, hb, he⟩ := h
  rw [expand202 ts hs, h0, h6, h7, h13]
  have hn : u32b ((nx + 4 * m) % 4294967296) := by unfold u32b; omega
  have HE := Lib.hid (done_end hn hv hX hm hf hb he)
  have i3 : W.cell? ⟨ii, 3, none⟩ = some (.int .i64 m) := hi.cell 3
  have c16 := hv.place
  have cf := hv.frozen
  have e0 : W.cell? ⟨ev, 0, none⟩ = some (.int .i64 E.1) := hb.cell 0
  have e1 : W.cell? ⟨ev, 1, none⟩ = some (.int .i64 E.2) := hb.cell 1
  have ef := hb.frozen
  have hne : v ≠ ev := Blk.ne_ hv.hb hb (by decide)
  have hne2 : ev ≠ v := fun e => hne e.symm
  have hq : (nx + 4 * (m % 4294967296) % 4294967296) % 4294967296 = (nx + 4 * m) % 4294967296 := by omega
  have hq2 : (nx + 4 * (m % 4294967296)) % 4294967296 = (nx + 4 * m) % 4294967296 := by omega
  clear hs h0 h6 h7 h13 hn hv hX hm hf hb he hi
  refine wp_seq (wp_skip ?_)
  go_wp2
  go_step3
  go_wp2
  unfold jumps
  refine bodyPost_ret (v := .agg #[.int .i64 E.1, .int .i64 E.2]) ?_ rfl HE.out.2
  exact results_cell_row Tryz.results11 _ _ ev 39 _ (0, 0) _ rfl HE.out.1 Tryz.underlying39 rfl (by kernel_rfl)
end Go.Proofs.YtbmaecdlkchkeaaGreatDoor
namespace Go.Proofs.YtbmaecdlkchkeaaGreatDoor
open Go.RowKit
set_option linter.unusedVariables false
set_option linter.unusedSimpArgs false
set_option maxRecDepth 100000
theorem trapped_any (n : Int) (w : World) : Calls Tryz.prog 42 #[.int .i64 n] w fun e w' => e = .returned (.agg #[.int .i64 2, .int .i64 n]) ∧ Fr [] w w' := by
  have HF := Lib.hid (fun o => (Fr.refl [] w).alloc o)
  go_enter Tryz.func42, Tryz.ntmps42
  go_wp2
  exact bodyPost_ret (v := .agg #[.int .i64 2, .int .i64 n]) (results_cell_row Tryz.results42 _ _ w.heap.size 39 _ (0, 0) _ rfl (Blk.new w 39 _) Tryz.underlying39 rfl (by kernel_rfl)) rfl ⟨rfl, HF.out _⟩
/-- What loads and stores come to. -/
def touchV (k : Nat) (x : Vm) (st : St) (t : List Pg) (a : Nat) (ad wd nx : Int) : (Int × Int) × Vm × St :=
  if k = 20 ∨ k = 21 then (if (ldR st t ad wd 1).2 ≠ 0 then ((2, 3), x, st) else ((0, 0), putP (putR x a ((ldR st t ad wd 1).1 % 4294967296)) nx, st))
  else if stE st t ad wd (x.r a) ≠ 0 then ((2, 4), x, st) else ((0, 0), putP x nx, stS st t ad wd (x.r a))
theorem stS_no {st : St} {t : List Pg} {a k n : Int} (h : stE st t a k n ≠ 0) : stS st t a k n = st := by
  unfold stE at h
  unfold stS
  split
  · rfl
  · next h1 =>
    rw [if_neg h1] at h
    split
    · rfl
    · next h2 =>
      rw [if_neg h2] at h
      unfold wrS
      rw [if_neg h]
/-- At the label 'touch'. -/
structure JTW (w : World) (v p F ev ii bt mm cap : Nat) (A : Option Addr) (k : Nat) (o1 o2 o3 : Int) (x : Vm) (st : St) (t : List Pg) (W : World) : Prop where
  hi : Blk W ii 55 #[.int .i64 (k : Int), .int .i64 o1, .int .i64 o2, .int .i64 o3]
  hv : VmAt W v x
  hm : MemAt W p F st
  ht : Tb W bt (.slice A mm cap) t
  hbt : bt < W.heap.size
  hf : Fr [] w W
  hb : Blk W ev 39 #[.int .i64 0, .int .i64 0]
  he : w.heap.size ≤ ev
  hl : v < w.heap.size ∧ F < w.heap.size
theorem JTW.fr {w W W' : World} {v p F ev ii bt mm cap : Nat} {A : Option Addr} {k : Nat} {o1 o2 o3 : Int} {x : Vm} {st : St} {t : List Pg} (h : JTW w v p F ev ii bt mm cap A k o1 o2 o3 x st t W) (hf : Fr [] W W') : JTW w v p F ev ii bt mm cap A k o1 o2 o3 x st t W' :=
  ⟨h.hi.fr hf (by simp), h.hv.fr hf (by simp), h.hm.to hf (by simp) (by simp), h.ht.fr hf (by simp), Nat.lt_of_lt_of_le h.hbt hf.size, h.hf.trans hf, h.hb.fr hf (by simp), h.he, h.hl⟩
/-- A step that traps. -/
theorem trap_end {w W : World} {v p F ev ii bt mm cap : Nat} {A : Option Addr} {k : Nat} {o1 o2 o3 : Int} {x : Vm} {st : St} {t : List Pg} (h : JTW w v p F ev ii bt mm cap A k o1 o2 o3 x st t W) (c n : Int) :
    Blk ((W.setCell ⟨ev, 0, none⟩ (.int .i64 c)).setCell ⟨ev, 1, none⟩ (.int .i64 n)) ev 39 #[.int .i64 c, .int .i64 n] ∧ StepQ w v p F (c, n) x st (.returned (.agg #[.int .i64 c, .int .i64 n])) ((W.setCell ⟨ev, 0, none⟩ (.int .i64 c)).setCell ⟨ev, 1, none⟩ (.int .i64 n)) := by
  obtain ⟨n3, n4⟩ := h.hm.ne_ev h.hb (by decide) (by decide)
  have n5 : v ≠ ev := Blk.ne_ h.hv.hb h.hb (by decide)
  have f1 := (Fr.refl [ev] W).setCell (p := ⟨ev, 0, none⟩) (.inl (by simp)) (.int .i64 c)
  have f2 := f1.setCell (p := ⟨ev, 1, none⟩) (.inl (by simp)) (.int .i64 n)
  refine ⟨(h.hb.set_ 0 _).set_ 1 _, rfl, h.hv.fr f2 (by simp; omega), h.hm.to f2 (by simp; omega) (by simp; omega), ?_⟩
  exact ((h.hf.mono (by simp)).setCell (p := ⟨ev, 0, none⟩) (.inr h.he) _).setCell (p := ⟨ev, 1, none⟩) (.inr h.he) _
/-- The same, behind a store. -/
structure JTX (w : World) (v p F ev : Nat) (x : Vm) (st : St) (W : World) : Prop where
  hv : VmAt W v x
  hm : MemAt W p F st
  hf : Fr [F] w W
  hb : Blk W ev 39 #[.int .i64 0, .int .i64 0]
  he : w.heap.size ≤ ev
theorem JTW.turn {w W W' W'' : World} {v p F ev ii bt mm cap : Nat} {A : Option Addr} {k : Nat} {o1 o2 o3 : Int} {x : Vm} {st st' : St} {t : List Pg} (h : JTW w v p F ev ii bt mm cap A k o1 o2 o3 x st t W) (hm : MemAt W' p F st') (hf : Fr [F] W W') (hf' : Fr [] W' W'') : JTX w v p F ev x st' W'' := by
  obtain ⟨n1, n2⟩ := h.hm.ne_vm h.hv
  obtain ⟨n3, n4⟩ := h.hm.ne_ev h.hb (by decide) (by decide)
  exact ⟨(h.hv.fr hf (by simp; omega)).fr hf' (by simp), hm.to hf' (by simp) (by simp), ((h.hf.mono (by simp)).trans hf).trans (hf'.mono (by simp)), (h.hb.fr hf (by simp; omega)).fr hf' (by simp), h.he⟩
theorem trap_end2 {w W : World} {v p F ev : Nat} {x : Vm} {st : St} (h : JTX w v p F ev x st W) (c n : Int) :
    Blk ((W.setCell ⟨ev, 0, none⟩ (.int .i64 c)).setCell ⟨ev, 1, none⟩ (.int .i64 n)) ev 39 #[.int .i64 c, .int .i64 n] ∧ StepQ w v p F (c, n) x st (.returned (.agg #[.int .i64 c, .int .i64 n])) ((W.setCell ⟨ev, 0, none⟩ (.int .i64 c)).setCell ⟨ev, 1, none⟩ (.int .i64 n)) := by
  obtain ⟨n3, n4⟩ := h.hm.ne_ev h.hb (by decide) (by decide)
  have n5 : v ≠ ev := Blk.ne_ h.hv.hb h.hb (by decide)
  have f1 := (Fr.refl [ev] W).setCell (p := ⟨ev, 0, none⟩) (.inl (by simp)) (.int .i64 c)
  have f2 := f1.setCell (p := ⟨ev, 1, none⟩) (.inl (by simp)) (.int .i64 n)
  refine ⟨(h.hb.set_ 0 _).set_ 1 _, rfl, h.hv.fr f2 (by simp; omega), h.hm.to f2 (by simp; omega) (by simp; omega), ?_⟩
  exact ((h.hf.mono (by simp)).setCell (p := ⟨ev, 0, none⟩) (.inr h.he) _).setCell (p := ⟨ev, 1, none⟩) (.inr h.he) _
def JT (w : World) (v p F ev : Nat) (E : Int × Int) (X : Vm) (S : St) (a : Act) (W : World) : Prop :=
  ∃ ts : Array Value, a = { tmps := ts, defers := [] } ∧ ts.size = 202 ∧ ts.getD 0 undef = ptr v ∧ ts.getD 1 undef = ptr p ∧ ts.getD 6 undef = ptr ev ∧ ∃ (ii bt mm cap : Nat) (A : Option Addr) (k r : Nat) (o1 o2 o3 ad wd nx : Int) (x : Vm) (st : St) (t : List Pg), ts.getD 2 undef = .slice A mm cap ∧ ts.getD 7 undef = ptr ii ∧ ts.getD 9 undef = .pointer (some ⟨v, r, none⟩) ∧ ts.getD 11 undef = .int .i64 ad ∧ ts.getD 12 undef = .int .i64 wd ∧ ts.getD 13 undef = .int .u32 nx ∧ u32b nx ∧ r < 16 ∧ ad ≤ 9223372036854775807 ∧ (k = 20 ∨ k = 21 ∨ k = 22 ∨ k = 23) ∧ JTW w v p F ev ii bt mm cap A k o1 o2 o3 x st t W ∧ touchV k x st t r ad wd nx = (E, X, S)
set_option maxHeartbeats 4000000 in
theorem touch_20_no (r0 c : Code) (hc : Tryz.f11.body = some (.seq r0 (.scope c))) (J : Nat → Act → World → Prop) (w : World) (v p F ev ii bt mm cap : Nat) (A : Option Addr) (r : Nat) (o1 o2 o3 ad wd nx : Int) (x : Vm) (st : St) (t : List Pg) (ts : Array Value) (W : World) (hs : ts.size = 202) (h0 : ts.getD 0 undef = ptr v) (h1 : ts.getD 1 undef = ptr p) (h6 : ts.getD 6 undef = ptr ev) (h2 : ts.getD 2 undef = .slice A mm cap) (h7 : ts.getD 7 undef = ptr ii) (h9 : ts.getD 9 undef = .pointer (some ⟨v, r, none⟩)) (h11 : ts.getD 11 undef = .int .i64 ad) (h12 : ts.getD 12 undef = .int .i64 wd) (h13 : ts.getD 13 undef = .int .u32 nx) (hn : u32b nx) (hr : r < 16) (had : ad ≤ 9223372036854775807)
    (hj : JTW w v p F ev ii bt mm cap A 20 o1 o2 o3 x st t W) (hno : (ldR st t ad wd 1).2 ≠ 0) :
    ∃ rest, findLabel c 1 = some rest ∧ rest.wp Tryz.prog (jumps J (bodyPost Tryz.prog Tryz.f11 (StepQ w v p F (2, 3) x st))) { tmps := ts, defers := [] } W := by
  cases hc
  refine ⟨_, rfl, ?_⟩
  rw [expand202 ts hs, h0, h1, h2, h6, h7, h9, h11, h12, h13]
  have HL := Lib.hid (Load_any bt p F mm cap st A t ad wd 1 W hj.ht hj.hm had hj.hbt)
  have HT := Lib.hid (fun n W => trapped_any n W)
  have HJ := Lib.hid hj
  have i0 : W.cell? ⟨ii, 0, none⟩ = some (.int .i64 20) := hj.hi.cell 0
  have k0 : W.cell? ⟨v, r, none⟩ = some (.int .u32 (x.r r)) := hj.hv.reg hr
  have kb : 0 ≤ x.r r ∧ x.r r < 4294967296 := hj.hv.r r
  generalize hE : (ldR st t ad wd 1).2 = E2 at *
  generalize (ldR st t ad wd 1).1 = N2 at *
  have hbe : (E2 != 0) = true := by simpa using hno
  clear hs h0 h1 h2 h6 h7 h9 h11 h12 h13 hj hno hE
  refine wp_seq (wp_skip ?_)
  go_wp2_with (first
    | (go_at_call 44; refine HL.out.mono ?_; rintro e w1 ⟨rfl, hf⟩; have HJ1 := Lib.hid (HJ.out.fr hf); clear hf)
    | (go_at_call 42; refine (HT.out _ _).mono ?_; rintro e w2 ⟨rfl, hf⟩; have HJ2 := Lib.hid (HJ1.out.fr hf); clear hf; have e0 : w2.cell? ⟨ev, 0, none⟩ = some (.int .i64 0) := HJ2.out.hb.cell 0; have e1 : w2.cell? ⟨ev, 1, none⟩ = some (.int .i64 0) := HJ2.out.hb.cell 1; have ef := HJ2.out.hb.frozen)
    | fail)
  unfold jumps
  have HE := trap_end HJ2.out 2 3
  refine bodyPost_ret (v := .agg #[.int .i64 2, .int .i64 3]) ?_ rfl HE.2
  exact results_cell_row Tryz.results11 _ _ ev 39 _ (0, 0) _ rfl HE.1 Tryz.underlying39 rfl (by kernel_rfl)
set_option maxHeartbeats 4000000 in
theorem touch_20_yes (r0 c : Code) (hc : Tryz.f11.body = some (.seq r0 (.scope c))) (J : Nat → Act → World → Prop) (w : World) (v p F ev ii bt mm cap : Nat) (A : Option Addr) (r : Nat) (o1 o2 o3 ad wd nx : Int) (x : Vm) (st : St) (t : List Pg) (ts : Array Value) (W : World) (hs : ts.size = 202) (h0 : ts.getD 0 undef = ptr v) (h1 : ts.getD 1 undef = ptr p) (h6 : ts.getD 6 undef = ptr ev) (h2 : ts.getD 2 undef = .slice A mm cap) (h7 : ts.getD 7 undef = ptr ii) (h9 : ts.getD 9 undef = .pointer (some ⟨v, r, none⟩)) (h11 : ts.getD 11 undef = .int .i64 ad) (h12 : ts.getD 12 undef = .int .i64 wd) (h13 : ts.getD 13 undef = .int .u32 nx) (hn : u32b nx) (hr : r < 16) (had : ad ≤ 9223372036854775807)
    (hj : JTW w v p F ev ii bt mm cap A 20 o1 o2 o3 x st t W) (hno : (ldR st t ad wd 1).2 = 0) (hJ : ∀ a W', JD w v p F ev (0, 0) (putP (putR x r ((ldR st t ad wd 1).1 % 4294967296)) nx) st a W' → J 0 a W') :
    ∃ rest, findLabel c 1 = some rest ∧ rest.wp Tryz.prog (jumps J (bodyPost Tryz.prog Tryz.f11 (StepQ w v p F (0, 0) (putP (putR x r ((ldR st t ad wd 1).1 % 4294967296)) nx) st))) { tmps := ts, defers := [] } W := by
  cases hc
  refine ⟨_, rfl, ?_⟩
  rw [expand202 ts hs, h0, h1, h2, h6, h7, h9, h11, h12, h13]
  have HL := Lib.hid (Load_any bt p F mm cap st A t ad wd 1 W hj.ht hj.hm had hj.hbt)
  rw [hno] at HL
  have HJ := Lib.hid hj
  have i0 : W.cell? ⟨ii, 0, none⟩ = some (.int .i64 20) := hj.hi.cell 0
  have k0 : W.cell? ⟨v, r, none⟩ = some (.int .u32 (x.r r)) := hj.hv.reg hr
  have kb : 0 ≤ x.r r ∧ x.r r < 4294967296 := hj.hv.r r
  have HJJ := Lib.hid hJ
  have HN := Lib.hid hn
  have HR := Lib.hid hr
  generalize (ldR st t ad wd 1).1 = N2 at *
  clear hs h0 h1 h2 h6 h7 h9 h11 h12 h13 hj hno hJ hn
  refine wp_seq (wp_skip ?_)
  go_wp2_with (first
    | (go_at_call 44; refine HL.out.mono ?_; rintro e w1 ⟨rfl, hf⟩; have HJ1 := Lib.hid (HJ.out.fr hf); clear hf; have k1 := HJ1.out.hv.reg HR.out; have kf := HJ1.out.hv.frozen)
    | fail)
  refine wp_goto ?_
  refine HJJ.out _ _ ?_
  have hn2 : u32b (N2 % 4294967296) := by unfold u32b; omega
  obtain ⟨n1, n2⟩ := HJ1.out.hm.ne_vm HJ1.out.hv
  have n5 : v ≠ ev := Blk.ne_ HJ1.out.hv.hb HJ1.out.hb (by decide)
  have f1 := (Fr.refl [v] w1).setCell (p := ⟨v, r, none⟩) (.inl (by simp)) (.int .u32 (N2 % 4294967296))
  refine ⟨_, rfl, rfl, rfl, rfl, nx, putR x r (N2 % 4294967296), rfl, HN.out, HJ1.out.hv.setR HR.out hn2, rfl, HJ1.out.hm.to f1 (by simp; omega) (by simp; omega), ((HJ1.out.hf.mono (by simp)).trans (f1.mono (by simp))), HJ1.out.hb.fr f1 (by simp; omega), HJ1.out.he⟩
set_option maxHeartbeats 4000000 in
theorem touch_21_no (r0 c : Code) (hc : Tryz.f11.body = some (.seq r0 (.scope c))) (J : Nat → Act → World → Prop) (w : World) (v p F ev ii bt mm cap : Nat) (A : Option Addr) (r : Nat) (o1 o2 o3 ad wd nx : Int) (x : Vm) (st : St) (t : List Pg) (ts : Array Value) (W : World) (hs : ts.size = 202) (h0 : ts.getD 0 undef = ptr v) (h1 : ts.getD 1 undef = ptr p) (h6 : ts.getD 6 undef = ptr ev) (h2 : ts.getD 2 undef = .slice A mm cap) (h7 : ts.getD 7 undef = ptr ii) (h9 : ts.getD 9 undef = .pointer (some ⟨v, r, none⟩)) (h11 : ts.getD 11 undef = .int .i64 ad) (h12 : ts.getD 12 undef = .int .i64 wd) (h13 : ts.getD 13 undef = .int .u32 nx) (hn : u32b nx) (hr : r < 16) (had : ad ≤ 9223372036854775807)
    (hj : JTW w v p F ev ii bt mm cap A 21 o1 o2 o3 x st t W) (hno : (ldR st t ad wd 1).2 ≠ 0) :
    ∃ rest, findLabel c 1 = some rest ∧ rest.wp Tryz.prog (jumps J (bodyPost Tryz.prog Tryz.f11 (StepQ w v p F (2, 3) x st))) { tmps := ts, defers := [] } W := by
  cases hc
  refine ⟨_, rfl, ?_⟩
  rw [expand202 ts hs, h0, h1, h2, h6, h7, h9, h11, h12, h13]
  have HL := Lib.hid (Load_any bt p F mm cap st A t ad wd 1 W hj.ht hj.hm had hj.hbt)
  have HT := Lib.hid (fun n W => trapped_any n W)
  have HJ := Lib.hid hj
  have i0 : W.cell? ⟨ii, 0, none⟩ = some (.int .i64 21) := hj.hi.cell 0
  have k0 : W.cell? ⟨v, r, none⟩ = some (.int .u32 (x.r r)) := hj.hv.reg hr
  have kb : 0 ≤ x.r r ∧ x.r r < 4294967296 := hj.hv.r r
  generalize hE : (ldR st t ad wd 1).2 = E2 at *
  generalize (ldR st t ad wd 1).1 = N2 at *
  have hbe : (E2 != 0) = true := by simpa using hno
  clear hs h0 h1 h2 h6 h7 h9 h11 h12 h13 hj hno hE
  refine wp_seq (wp_skip ?_)
  go_wp2_with (first
    | (go_at_call 44; refine HL.out.mono ?_; rintro e w1 ⟨rfl, hf⟩; have HJ1 := Lib.hid (HJ.out.fr hf); clear hf)
    | (go_at_call 42; refine (HT.out _ _).mono ?_; rintro e w2 ⟨rfl, hf⟩; have HJ2 := Lib.hid (HJ1.out.fr hf); clear hf; have e0 : w2.cell? ⟨ev, 0, none⟩ = some (.int .i64 0) := HJ2.out.hb.cell 0; have e1 : w2.cell? ⟨ev, 1, none⟩ = some (.int .i64 0) := HJ2.out.hb.cell 1; have ef := HJ2.out.hb.frozen)
    | fail)
  unfold jumps
  have HE := trap_end HJ2.out 2 3
  refine bodyPost_ret (v := .agg #[.int .i64 2, .int .i64 3]) ?_ rfl HE.2
  exact results_cell_row Tryz.results11 _ _ ev 39 _ (0, 0) _ rfl HE.1 Tryz.underlying39 rfl (by kernel_rfl)
set_option maxHeartbeats 4000000 in
theorem touch_21_yes (r0 c : Code) (hc : Tryz.f11.body = some (.seq r0 (.scope c))) (J : Nat → Act → World → Prop) (w : World) (v p F ev ii bt mm cap : Nat) (A : Option Addr) (r : Nat) (o1 o2 o3 ad wd nx : Int) (x : Vm) (st : St) (t : List Pg) (ts : Array Value) (W : World) (hs : ts.size = 202) (h0 : ts.getD 0 undef = ptr v) (h1 : ts.getD 1 undef = ptr p) (h6 : ts.getD 6 undef = ptr ev) (h2 : ts.getD 2 undef = .slice A mm cap) (h7 : ts.getD 7 undef = ptr ii) (h9 : ts.getD 9 undef = .pointer (some ⟨v, r, none⟩)) (h11 : ts.getD 11 undef = .int .i64 ad) (h12 : ts.getD 12 undef = .int .i64 wd) (h13 : ts.getD 13 undef = .int .u32 nx) (hn : u32b nx) (hr : r < 16) (had : ad ≤ 9223372036854775807)
    (hj : JTW w v p F ev ii bt mm cap A 21 o1 o2 o3 x st t W) (hno : (ldR st t ad wd 1).2 = 0) (hJ : ∀ a W', JD w v p F ev (0, 0) (putP (putR x r ((ldR st t ad wd 1).1 % 4294967296)) nx) st a W' → J 0 a W') :
    ∃ rest, findLabel c 1 = some rest ∧ rest.wp Tryz.prog (jumps J (bodyPost Tryz.prog Tryz.f11 (StepQ w v p F (0, 0) (putP (putR x r ((ldR st t ad wd 1).1 % 4294967296)) nx) st))) { tmps := ts, defers := [] } W := by
  cases hc
  refine ⟨_, rfl, ?_⟩
  rw [expand202 ts hs, h0, h1, h2, h6, h7, h9, h11, h12, h13]
  have HL := Lib.hid (Load_any bt p F mm cap st A t ad wd 1 W hj.ht hj.hm had hj.hbt)
  rw [hno] at HL
  have HJ := Lib.hid hj
  have i0 : W.cell? ⟨ii, 0, none⟩ = some (.int .i64 21) := hj.hi.cell 0
  have k0 : W.cell? ⟨v, r, none⟩ = some (.int .u32 (x.r r)) := hj.hv.reg hr
  have kb : 0 ≤ x.r r ∧ x.r r < 4294967296 := hj.hv.r r
  have HJJ := Lib.hid hJ
  have HN := Lib.hid hn
  have HR := Lib.hid hr
  generalize (ldR st t ad wd 1).1 = N2 at *
  clear hs h0 h1 h2 h6 h7 h9 h11 h12 h13 hj hno hJ hn
  refine wp_seq (wp_skip ?_)
  go_wp2_with (first
    | (go_at_call 44; refine HL.out.mono ?_; rintro e w1 ⟨rfl, hf⟩; have HJ1 := Lib.hid (HJ.out.fr hf); clear hf; have k1 := HJ1.out.hv.reg HR.out; have kf := HJ1.out.hv.frozen)
    | fail)
  refine wp_goto ?_
  refine HJJ.out _ _ ?_
  have hn2 : u32b (N2 % 4294967296) := by unfold u32b; omega
  obtain ⟨n1, n2⟩ := HJ1.out.hm.ne_vm HJ1.out.hv
  have n5 : v ≠ ev := Blk.ne_ HJ1.out.hv.hb HJ1.out.hb (by decide)
  have f1 := (Fr.refl [v] w1).setCell (p := ⟨v, r, none⟩) (.inl (by simp)) (.int .u32 (N2 % 4294967296))
  refine ⟨_, rfl, rfl, rfl, rfl, nx, putR x r (N2 % 4294967296), rfl, HN.out, HJ1.out.hv.setR HR.out hn2, rfl, HJ1.out.hm.to f1 (by simp; omega) (by simp; omega), ((HJ1.out.hf.mono (by simp)).trans (f1.mono (by simp))), HJ1.out.hb.fr f1 (by simp; omega), HJ1.out.he⟩
set_option maxHeartbeats 4000000 in
theorem touch_22_no (r0 c : Code) (hc : Tryz.f11.body = some (.seq r0 (.scope c))) (J : Nat → Act → World → Prop) (w : World) (v p F ev ii bt mm cap : Nat) (A : Option Addr) (r : Nat) (o1 o2 o3 ad wd nx : Int) (x : Vm) (st : St) (t : List Pg) (ts : Array Value) (W : World) (hs : ts.size = 202) (h0 : ts.getD 0 undef = ptr v) (h1 : ts.getD 1 undef = ptr p) (h6 : ts.getD 6 undef = ptr ev) (h2 : ts.getD 2 undef = .slice A mm cap) (h7 : ts.getD 7 undef = ptr ii) (h9 : ts.getD 9 undef = .pointer (some ⟨v, r, none⟩)) (h11 : ts.getD 11 undef = .int .i64 ad) (h12 : ts.getD 12 undef = .int .i64 wd) (h13 : ts.getD 13 undef = .int .u32 nx) (hn : u32b nx) (hr : r < 16) (had : ad ≤ 9223372036854775807)
    (hj : JTW w v p F ev ii bt mm cap A 22 o1 o2 o3 x st t W) (hno : stE st t ad wd (x.r r) ≠ 0) :
    ∃ rest, findLabel c 1 = some rest ∧ rest.wp Tryz.prog (jumps J (bodyPost Tryz.prog Tryz.f11 (StepQ w v p F (2, 4) x st))) { tmps := ts, defers := [] } W := by
  cases hc
  refine ⟨_, rfl, ?_⟩
  rw [expand202 ts hs, h0, h1, h2, h6, h7, h9, h11, h12, h13]
  have HL := Lib.hid (Store_any bt p F mm cap st A t ad wd (x.r r) W hj.ht hj.hm had hj.hbt)
  unfold StoreP at HL
  rw [stS_no hno] at HL
  have HT := Lib.hid (fun n W => trapped_any n W)
  have HJ := Lib.hid hj
  have i0 : W.cell? ⟨ii, 0, none⟩ = some (.int .i64 22) := hj.hi.cell 0
  have k0 : W.cell? ⟨v, r, none⟩ = some (.int .u32 (x.r r)) := hj.hv.reg hr
  have kb : 0 ≤ x.r r ∧ x.r r < 4294967296 := hj.hv.r r
  generalize hE : stE st t ad wd (x.r r) = E2 at *
  have hbe : (E2 != 0) = true := by simpa using hno
  clear hs h0 h1 h2 h6 h7 h9 h11 h12 h13 hj hno hE
  refine wp_seq (wp_skip ?_)
  go_wp2_with (first
    | (go_at_call 45; refine HL.out.mono ?_; rintro e w1 ⟨rfl, hm1, hf⟩; have HJ1 := Lib.hid (And.intro hm1 hf); clear hf hm1)
    | (go_at_call 42; refine (HT.out _ _).mono ?_; rintro e w2 ⟨rfl, hf⟩; have HJ2 := Lib.hid (HJ.out.turn HJ1.out.1 HJ1.out.2 hf); clear hf; have e0 : w2.cell? ⟨ev, 0, none⟩ = some (.int .i64 0) := HJ2.out.hb.cell 0; have e1 : w2.cell? ⟨ev, 1, none⟩ = some (.int .i64 0) := HJ2.out.hb.cell 1; have ef := HJ2.out.hb.frozen)
    | fail)
  unfold jumps
  have HE := trap_end2 HJ2.out 2 4
  refine bodyPost_ret (v := .agg #[.int .i64 2, .int .i64 4]) ?_ rfl HE.2
  exact results_cell_row Tryz.results11 _ _ ev 39 _ (0, 0) _ rfl HE.1 Tryz.underlying39 rfl (by kernel_rfl)
set_option maxHeartbeats 4000000 in
theorem touch_22_yes (r0 c : Code) (hc : Tryz.f11.body = some (.seq r0 (.scope c))) (J : Nat → Act → World → Prop) (w : World) (v p F ev ii bt mm cap : Nat) (A : Option Addr) (r : Nat) (o1 o2 o3 ad wd nx : Int) (x : Vm) (st : St) (t : List Pg) (ts : Array Value) (W : World) (hs : ts.size = 202) (h0 : ts.getD 0 undef = ptr v) (h1 : ts.getD 1 undef = ptr p) (h6 : ts.getD 6 undef = ptr ev) (h2 : ts.getD 2 undef = .slice A mm cap) (h7 : ts.getD 7 undef = ptr ii) (h9 : ts.getD 9 undef = .pointer (some ⟨v, r, none⟩)) (h11 : ts.getD 11 undef = .int .i64 ad) (h12 : ts.getD 12 undef = .int .i64 wd) (h13 : ts.getD 13 undef = .int .u32 nx) (hn : u32b nx) (hr : r < 16) (had : ad ≤ 9223372036854775807)
    (hj : JTW w v p F ev ii bt mm cap A 22 o1 o2 o3 x st t W) (hno : stE st t ad wd (x.r r) = 0) (hJ : ∀ a W', JD w v p F ev (0, 0) (putP x nx) (stS st t ad wd (x.r r)) a W' → J 0 a W') :
    ∃ rest, findLabel c 1 = some rest ∧ rest.wp Tryz.prog (jumps J (bodyPost Tryz.prog Tryz.f11 (StepQ w v p F (0, 0) (putP x nx) (stS st t ad wd (x.r r))))) { tmps := ts, defers := [] } W := by
  cases hc
  refine ⟨_, rfl, ?_⟩
  rw [expand202 ts hs, h0, h1, h2, h6, h7, h9, h11, h12, h13]
  have HL := Lib.hid (Store_any bt p F mm cap st A t ad wd (x.r r) W hj.ht hj.hm had hj.hbt)
  unfold StoreP at HL
  rw [hno] at HL
  have HJ := Lib.hid hj
  have i0 : W.cell? ⟨ii, 0, none⟩ = some (.int .i64 22) := hj.hi.cell 0
  have k0 : W.cell? ⟨v, r, none⟩ = some (.int .u32 (x.r r)) := hj.hv.reg hr
  have kb : 0 ≤ x.r r ∧ x.r r < 4294967296 := hj.hv.r r
  have HJJ := Lib.hid hJ
  have HN := Lib.hid hn
  have HR := Lib.hid hr
  generalize hS : stS st t ad wd (x.r r) = S2 at *
  clear hs h0 h1 h2 h6 h7 h9 h11 h12 h13 hj hno hJ hn
  refine wp_seq (wp_skip ?_)
  go_wp2_with (first
    | (go_at_call 45; refine HL.out.mono ?_; rintro e w1 ⟨rfl, hm1, hf⟩; have HJ1 := Lib.hid (HJ.out.turn hm1 hf (Fr.refl [] _)); clear hf hm1)
    | fail)
  refine wp_goto ?_
  refine HJJ.out _ _ ?_
  exact ⟨_, rfl, rfl, rfl, rfl, nx, x, rfl, HN.out, HJ1.out.hv, rfl, HJ1.out.hm, HJ1.out.hf.mono (by simp), HJ1.out.hb, HJ1.out.he⟩
set_option maxHeartbeats 4000000 in
theorem touch_23_no (r0 c : Code) (hc : Tryz.f11.body = some (.seq r0 (.scope c))) (J : Nat → Act → World → Prop) (w : World) (v p F ev ii bt mm cap : Nat) (A : Option Addr) (r : Nat) (o1 o2 o3 ad wd nx : Int) (x : Vm) (st : St) (t : List Pg) (ts : Array Value) (W : World) (hs : ts.size = 202) (h0 : ts.getD 0 undef = ptr v) (h1 : ts.getD 1 undef = ptr p) (h6 : ts.getD 6 undef = ptr ev) (h2 : ts.getD 2 undef = .slice A mm cap) (h7 : ts.getD 7 undef = ptr ii) (h9 : ts.getD 9 undef = .pointer (some ⟨v, r, none⟩)) (h11 : ts.getD 11 undef = .int .i64 ad) (h12 : ts.getD 12 undef = .int .i64 wd) (h13 : ts.getD 13 undef = .int .u32 nx) (hn : u32b nx) (hr : r < 16) (had : ad ≤ 9223372036854775807)
    (hj : JTW w v p F ev ii bt mm cap A 23 o1 o2 o3 x st t W) (hno : stE st t ad wd (x.r r) ≠ 0) :
    ∃ rest, findLabel c 1 = some rest ∧ rest.wp Tryz.prog (jumps J (bodyPost Tryz.prog Tryz.f11 (StepQ w v p F (2, 4) x st))) { tmps := ts, defers := [] } W := by
  cases hc
  refine ⟨_, rfl, ?_⟩
  rw [expand202 ts hs, h0, h1, h2, h6, h7, h9, h11, h12, h13]
  have HL := Lib.hid (Store_any bt p F mm cap st A t ad wd (x.r r) W hj.ht hj.hm had hj.hbt)
  unfold StoreP at HL
  rw [stS_no hno] at HL
  have HT := Lib.hid (fun n W => trapped_any n W)
  have HJ := Lib.hid hj
  have i0 : W.cell? ⟨ii, 0, none⟩ = some (.int .i64 23) := hj.hi.cell 0
  have k0 : W.cell? ⟨v, r, none⟩ = some (.int .u32 (x.r r)) := hj.hv.reg hr
  have kb : 0 ≤ x.r r ∧ x.r r < 4294967296 := hj.hv.r r
  generalize hE : stE st t ad wd (x.r r) = E2 at *
  have hbe : (E2 != 0) = true := by simpa using hno
  clear hs h0 h1 h2 h6 h7 h9 h11 h12 h13 hj hno hE
  refine wp_seq (wp_skip ?_)
  go_wp2_with (first
    | (go_at_call 45; refine HL.out.mono ?_; rintro e w1 ⟨rfl, hm1, hf⟩; have HJ1 := Lib.hid (And.intro hm1 hf); clear hf hm1)
    | (go_at_call 42; refine (HT.out _ _).mono ?_; rintro e w2 ⟨rfl, hf⟩; have HJ2 := Lib.hid (HJ.out.turn HJ1.out.1 HJ1.out.2 hf); clear hf; have e0 : w2.cell? ⟨ev, 0, none⟩ = some (.int .i64 0) := HJ2.out.hb.cell 0; have e1 : w2.cell? ⟨ev, 1, none⟩ = some (.int .i64 0) := HJ2.out.hb.cell 1; have ef := HJ2.out.hb.frozen)
    | fail)
  unfold jumps
  have HE := trap_end2 HJ2.out 2 4
  refine bodyPost_ret (v := .agg #[.int .i64 2, .int .i64 4]) ?_ rfl HE.2
  exact results_cell_row Tryz.results11 _ _ ev 39 _ (0, 0) _ rfl HE.1 Tryz.underlying39 rfl (by kernel_rfl)
set_option maxHeartbeats 4000000 in
theorem touch_23_yes (r0 c : Code) (hc : Tryz.f11.body = some (.seq r0 (.scope c))) (J : Nat → Act → World → Prop) (w : World) (v p F ev ii bt mm cap : Nat) (A : Option Addr) (r : Nat) (o1 o2 o3 ad wd nx : Int) (x : Vm) (st : St) (t : List Pg) (ts : Array Value) (W : World) (hs : ts.size = 202) (h0 : ts.getD 0 undef = ptr v) (h1 : ts.getD 1 undef = ptr p) (h6 : ts.getD 6 undef = ptr ev) (h2 : ts.getD 2 undef = .slice A mm cap) (h7 : ts.getD 7 undef = ptr ii) (h9 : ts.getD 9 undef = .pointer (some ⟨v, r, none⟩)) (h11 : ts.getD 11 undef = .int .i64 ad) (h12 : ts.getD 12 undef = .int .i64 wd) (h13 : ts.getD 13 undef = .int .u32 nx) (hn : u32b nx) (hr : r < 16) (had : ad ≤ 9223372036854775807)
    (hj : JTW w v p F ev ii bt mm cap A 23 o1 o2 o3 x st t W) (hno : stE st t ad wd (x.r r) = 0) (hJ : ∀ a W', JD w v p F ev (0, 0) (putP x nx) (stS st t ad wd (x.r r)) a W' → J 0 a W') :
    ∃ rest, findLabel c 1 = some rest ∧ rest.wp Tryz.prog (jumps J (bodyPost Tryz.prog Tryz.f11 (StepQ w v p F (0, 0) (putP x nx) (stS st t ad wd (x.r r))))) { tmps := ts, defers := [] } W := by
  cases hc
  refine ⟨_, rfl, ?_⟩
  rw [expand202 ts hs, h0, h1, h2, h6, h7, h9, h11, h12, h13]
  have HL := Lib.hid (Store_any bt p F mm cap st A t ad wd (x.r r) W hj.ht hj.hm had hj.hbt)
  unfold StoreP at HL
  rw [hno] at HL
  have HJ := Lib.hid hj
  have i0 : W.cell? ⟨ii, 0, none⟩ = some (.int .i64 23) := hj.hi.cell 0
  have k0 : W.cell? ⟨v, r, none⟩ = some (.int .u32 (x.r r)) := hj.hv.reg hr
  have kb : 0 ≤ x.r r ∧ x.r r < 4294967296 := hj.hv.r r
  have HJJ := Lib.hid hJ
  have HN := Lib.hid hn
  have HR := Lib.hid hr
  generalize hS : stS st t ad wd (x.r r) = S2 at *
  clear hs h0 h1 h2 h6 h7 h9 h11 h12 h13 hj hno hJ hn
  refine wp_seq (wp_skip ?_)
  go_wp2_with (first
    | (go_at_call 45; refine HL.out.mono ?_; rintro e w1 ⟨rfl, hm1, hf⟩; have HJ1 := Lib.hid (HJ.out.turn hm1 hf (Fr.refl [] _)); clear hf hm1)
    | fail)
  refine wp_goto ?_
  refine HJJ.out _ _ ?_
  exact ⟨_, rfl, rfl, rfl, rfl, nx, x, rfl, HN.out, HJ1.out.hv, rfl, HJ1.out.hm, HJ1.out.hf.mono (by simp), HJ1.out.hb, HJ1.out.he⟩
theorem pass_touch (r0 c : Code) (hc : Tryz.f11.body = some (.seq r0 (.scope c))) (J : Nat → Act → World → Prop) (w : World) (v p F ev : Nat) (E : Int × Int) (X : Vm) (S : St) (a : Act) (W : World) (h : JT w v p F ev E X S a W) (hJ : ∀ a W', JD w v p F ev E X S a W' → J 0 a W') :
    ∃ rest, findLabel c 1 = some rest ∧ rest.wp Tryz.prog (jumps J (bodyPost Tryz.prog Tryz.f11 (StepQ w v p F E X S))) a W := by
  obtain ⟨ts, rfl, hs, h0, h1, h6, ii, bt, mm, cap, A, k, r, o1, o2, o3, ad, wd, nx, x, st, t, h2, h7, h9, h11, h12, h13, hn, hr, had, hk, hj, he⟩ := h
  unfold touchV at he
  rcases hk with rfl | rfl | rfl | rfl
  · rw [if_pos (by decide)] at he
    by_cases hq : (ldR st t ad wd 1).2 = 0
    · rw [if_neg (by omega)] at he
      injection he with e1 e2
      injection e2 with e2 e3
      subst e1 e2 e3
      exact touch_20_yes r0 c hc J w v p F ev ii bt mm cap A r o1 o2 o3 ad wd nx x st t ts W hs h0 h1 h6 h2 h7 h9 h11 h12 h13 hn hr had hj hq hJ
    · rw [if_pos hq] at he
      injection he with e1 e2
      injection e2 with e2 e3
      subst e1 e2 e3
      exact touch_20_no r0 c hc J w v p F ev ii bt mm cap A r o1 o2 o3 ad wd nx x st t ts W hs h0 h1 h6 h2 h7 h9 h11 h12 h13 hn hr had hj hq
  · rw [if_pos (by decide)] at he
    by_cases hq : (ldR st t ad wd 1).2 = 0
    · rw [if_neg (by omega)] at he
      injection he with e1 e2
      injection e2 with e2 e3
      subst e1 e2 e3
      exact touch_21_yes r0 c hc J w v p F ev ii bt mm cap A r o1 o2 o3 ad wd nx x st t ts W hs h0 h1 h6 h2 h7 h9 h11 h12 h13 hn hr had hj hq hJ
    · rw [if_pos hq] at he
      injection he with e1 e2
      injection e2 with e2 e3
      subst e1 e2 e3
      exact touch_21_no r0 c hc J w v p F ev ii bt mm cap A r o1 o2 o3 ad wd nx x st t ts W hs h0 h1 h6 h2 h7 h9 h11 h12 h13 hn hr had hj hq
  · rw [if_neg (by decide)] at he
    by_cases hq : stE st t ad wd (x.r r) = 0
    · rw [if_neg (by omega)] at he
      injection he with e1 e2
      injection e2 with e2 e3
      subst e1 e2 e3
      exact touch_22_yes r0 c hc J w v p F ev ii bt mm cap A r o1 o2 o3 ad wd nx x st t ts W hs h0 h1 h6 h2 h7 h9 h11 h12 h13 hn hr had hj hq hJ
    · rw [if_pos hq] at he
      injection he with e1 e2
      injection e2 with e2 e3
      subst e1 e2 e3
      exact touch_22_no r0 c hc J w v p F ev ii bt mm cap A r o1 o2 o3 ad wd nx x st t ts W hs h0 h1 h6 h2 h7 h9 h11 h12 h13 hn hr had hj hq
  · rw [if_neg (by decide)] at he
    by_cases hq : stE st t ad wd (x.r r) = 0
    · rw [if_neg (by omega)] at he
      injection he with e1 e2
      injection e2 with e2 e3
      subst e1 e2 e3
      exact touch_23_yes r0 c hc J w v p F ev ii bt mm cap A r o1 o2 o3 ad wd nx x st t ts W hs h0 h1 h6 h2 h7 h9 h11 h12 h13 hn hr had hj hq hJ
    · rw [if_pos hq] at he
      injection he with e1 e2
      injection e2 with e2 e3
      subst e1 e2 e3
      exact touch_23_no r0 c hc J w v p F ev ii bt mm cap A r o1 o2 o3 ad wd nx x st t ts W hs h0 h1 h6 h2 h7 h9 h11 h12 h13 hn hr had hj hq
end Go.Proofs.YtbmaecdlkchkeaaGreatDoor
namespace Go.Proofs.YtbmaecdlkchkeaaGreatDoor
open Go.RowKit
set_option linter.unusedVariables false
set_option linter.unusedSimpArgs false
set_option maxRecDepth 100000
def Jall (w : World) (v p F ev : Nat) (E : Int × Int) (X : Vm) (S : St) (l : Nat) (a : Act) (W : World) : Prop :=
  match l with
  | 0 => JD w v p F ev E X S a W
  | 1 => JT w v p F ev E X S a W
  | 2 => JJ w v p F ev E X S a W
  | _ => False
theorem scope_step {r c : Code} (hc : Tryz.f11.body = some (.seq r (.scope c))) (w : World) (v p F ev : Nat) (E : Int × Int) (X : Vm) (S : St) (a : Act) (W : World)
    (first : c.wp Tryz.prog (jumps (Jall w v p F ev E X S) (bodyPost Tryz.prog Tryz.f11 (StepQ w v p F E X S))) a W) : (Code.scope c).wp Tryz.prog (bodyPost Tryz.prog Tryz.f11 (StepQ w v p F E X S)) a W := by
  refine wp_scope_labels (Jall w v p F ev E X S) (fun l => if l = 0 then 0 else 1) ?_ first
  intro l a' W' h
  match l, h with
  | 0, h => exact pass_done r c hc _ w v p F ev E X S a' W' h
  | 1, h => exact pass_touch r c hc _ w v p F ev E X S a' W' h (fun a2 W2 h2 => ⟨h2, by decide⟩)
  | 2, h => exact pass_jump r c hc _ w v p F ev E X S a' W' h
/-- What is kept on the way. -/
structure Mid (w : World) (v p F ev : Nat) (x : Vm) (st : St) (W : World) : Prop where
  hv : VmAt W v x
  hm : MemAt W p F st
  hf : Fr [v, F] w W
  hb : Blk W ev 39 #[.int .i64 0, .int .i64 0]
  he : w.heap.size ≤ ev
section
variable {w W W' : World} {v p F ev : Nat} {x : Vm} {st : St}
theorem Mid.fr (h : Mid w v p F ev x st W) (hf : Fr [] W W') : Mid w v p F ev x st W' := ⟨h.hv.fr hf (by simp), h.hm.to hf (by simp) (by simp), h.hf.trans (hf.mono (by simp)), h.hb.fr hf (by simp), h.he⟩
theorem Mid.ne (h : Mid w v p F ev x st W) : p ≠ v ∧ F ≠ v ∧ v ≠ ev ∧ p ≠ ev ∧ F ≠ ev :=
  ⟨(h.hm.ne_vm h.hv).1, (h.hm.ne_vm h.hv).2, Blk.ne_ h.hv.hb h.hb (by decide), (h.hm.ne_ev h.hb (by decide) (by decide)).1, (h.hm.ne_ev h.hb (by decide) (by decide)).2⟩
theorem Mid.put (h : Mid w v p F ev x st W) {k : Nat} (hk : k < 16) {n : Int} (hn : u32b n) : Mid w v p F ev (putR x k n) st (W.setCell ⟨v, k, none⟩ (.int .u32 n)) := by
  obtain ⟨n1, n2, n3, n4, n5⟩ := h.ne
  have f1 := (Fr.refl [v] W).setCell (p := ⟨v, k, none⟩) (.inl (by simp)) (.int .u32 n)
  exact ⟨h.hv.setR hk hn, h.hm.to f1 (by simp; omega) (by simp; omega), h.hf.trans (f1.mono (by simp)), h.hb.fr f1 (by simp; omega), h.he⟩
theorem Mid.wait (h : Mid w v p F ev x st W) (b : Bool) : Mid w v p F ev (putW x b) st (W.setCell ⟨v, 17, none⟩ (.bool b)) := by
  obtain ⟨n1, n2, n3, n4, n5⟩ := h.ne
  have f1 := (Fr.refl [v] W).setCell (p := ⟨v, 17, none⟩) (.inl (by simp)) (.bool b)
  exact ⟨h.hv.setW b, h.hm.to f1 (by simp; omega) (by simp; omega), h.hf.trans (f1.mono (by simp)), h.hb.fr f1 (by simp; omega), h.he⟩
theorem Mid.end_ (h : Mid w v p F ev x st W) (c n : Int) :
    Blk ((W.setCell ⟨ev, 0, none⟩ (.int .i64 c)).setCell ⟨ev, 1, none⟩ (.int .i64 n)) ev 39 #[.int .i64 c, .int .i64 n] ∧ StepQ w v p F (c, n) x st (.returned (.agg #[.int .i64 c, .int .i64 n])) ((W.setCell ⟨ev, 0, none⟩ (.int .i64 c)).setCell ⟨ev, 1, none⟩ (.int .i64 n)) := by
  obtain ⟨n1, n2, n5, n3, n4⟩ := h.ne
  have f1 := (Fr.refl [ev] W).setCell (p := ⟨ev, 0, none⟩) (.inl (by simp)) (.int .i64 c)
  have f2 := f1.setCell (p := ⟨ev, 1, none⟩) (.inl (by simp)) (.int .i64 n)
  exact ⟨(h.hb.set_ 0 _).set_ 1 _, rfl, h.hv.fr f2 (by simp; omega), h.hm.to f2 (by simp; omega) (by simp; omega), (h.hf.setCell (p := ⟨ev, 0, none⟩) (.inr h.he) _).setCell (p := ⟨ev, 1, none⟩) (.inr h.he) _⟩
end
theorem fetched {w : World} {v p F bt mm cap : Nat} {x : Vm} {st : St} {A : Option Addr} {t : List Pg} (hv : VmAt w v x) (hm : MemAt w p F st) (ht : Tb w bt (.slice A mm cap) t) (hbw : bt < w.heap.size) :
    Calls Tryz.prog 41 #[ptr v, ptr p, .slice A mm cap] (w.alloc (.cells #[.int .i64 0, .int .i64 0] 39)) fun e w' => e = .returned (.tuple #[(fetI x st t).1.v, .int .i64 (fetI x st t).2]) ∧ Mid w v p F w.heap.size x st w' ∧ Tb w' bt (.slice A mm cap) t ∧ bt < w'.heap.size ∧ Fr [] w w' := by
  have f0 := (Fr.refl [] w).alloc (.cells #[.int .i64 0, .int .i64 0] 39)
  refine (fetch_any v p F bt mm cap x st A t _ (hv.fr f0 (by simp)) (hm.to f0 (by simp) (by simp)) (ht.fr f0 (by simp)) (by simp; omega)).mono fun e w' ⟨he, hf⟩ => ?_
  have f1 := f0.trans hf
  exact ⟨he, ⟨hv.fr f1 (by simp), hm.to f1 (by simp) (by simp), f1.mono (by simp), (Blk.new w 39 _).fr hf (by simp), Nat.le_refl _⟩, ht.fr f1 (by simp), by have := f1.size; omega, f1⟩
end Go.Proofs.YtbmaecdlkchkeaaGreatDoor

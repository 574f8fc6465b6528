/- The machine's step: what stands at the labels, and what is walked from there. -/
import Derived.Test.YtonongaakieciaaV3
import Derived.BigQuiet
import Derived.Deep.QuietTactic
import Derived.RegionTactic
namespace Go.Proofs.Ytonongaakieciaa
open Go.RowKit
set_option linter.unusedVariables false
set_option linter.unusedSimpArgs false
set_option maxRecDepth 100000
theorem list_exp (l : List Value) : ∀ n, l.length = n → l = (List.range n).map fun i => l.getD i undef := by
  intro n h
  refine List.ext_getElem? fun j => ?_
  by_cases hj : j < n
  · simp [hj, h]
  · rw [List.getElem?_eq_none (by omega), List.getElem?_eq_none (by simp; omega)]
theorem expand202 (ts : Array Value) (h : ts.size = 202) : ts = #[ts.getD 0 undef, ts.getD 1 undef, ts.getD 2 undef, ts.getD 3 undef, ts.getD 4 undef, ts.getD 5 undef, ts.getD 6 undef, ts.getD 7 undef, ts.getD 8 undef, ts.getD 9 undef, ts.getD 10 undef, ts.getD 11 undef, ts.getD 12 undef, ts.getD 13 undef, ts.getD 14 undef, ts.getD 15 undef, ts.getD 16 undef, ts.getD 17 undef, ts.getD 18 undef, ts.getD 19 undef, ts.getD 20 undef, ts.getD 21 undef, ts.getD 22 undef, ts.getD 23 undef, ts.getD 24 undef, ts.getD 25 undef, ts.getD 26 undef, ts.getD 27 undef, ts.getD 28 undef, ts.getD 29 undef, ts.getD 30 undef, ts.getD 31 undef, ts.getD 32 undef, ts.getD 33 undef, ts.getD 34 undef, ts.getD 35 undef, ts.getD 36 undef, ts.getD 37 undef, ts.getD 38 undef, ts.getD 39 undef, ts.getD 40 undef, ts.getD 41 undef, ts.getD 42 undef, ts.getD 43 undef, ts.getD 44 undef, ts.getD 45 undef, ts.getD 46 undef, ts.getD 47 undef, ts.getD 48 undef, ts.getD 49 undef, ts.getD 50 undef, ts.getD 51 undef, ts.getD 52 undef, ts.getD 53 undef, ts.getD 54 undef, ts.getD 55 undef, ts.getD 56 undef, ts.getD 57 undef, ts.getD 58 undef, ts.getD 59 undef, ts.getD 60 undef, ts.getD 61 undef, ts.getD 62 undef, ts.getD 63 undef, ts.getD 64 undef, ts.getD 65 undef, ts.getD 66 undef, ts.getD 67 undef, ts.getD 68 undef, ts.getD 69 undef, ts.getD 70 undef, ts.getD 71 undef, ts.getD 72 undef, ts.getD 73 undef, ts.getD 74 undef, ts.getD 75 undef, ts.getD 76 undef, ts.getD 77 undef, ts.getD 78 undef, ts.getD 79 undef, ts.getD 80 undef, ts.getD 81 undef, ts.getD 82 undef, ts.getD 83 undef, ts.getD 84 undef, ts.getD 85 undef, ts.getD 86 undef, ts.getD 87 undef, ts.getD 88 undef, ts.getD 89 undef, ts.getD 90 undef, ts.getD 91 undef, ts.getD 92 undef, ts.getD 93 undef, ts.getD 94 undef, ts.getD 95 undef, ts.getD 96 undef, ts.getD 97 undef, ts.getD 98 undef, ts.getD 99 undef, ts.getD 100 undef, ts.getD 101 undef, ts.getD 102 undef, ts.getD 103 undef, ts.getD 104 undef, ts.getD 105 undef, ts.getD 106 undef, ts.getD 107 undef, ts.getD 108 undef, ts.getD 109 undef, ts.getD 110 undef, ts.getD 111 undef, ts.getD 112 undef, ts.getD 113 undef, ts.getD 114 undef, ts.getD 115 undef, ts.getD 116 undef, ts.getD 117 undef, ts.getD 118 undef, ts.getD 119 undef, ts.getD 120 undef, ts.getD 121 undef, ts.getD 122 undef, ts.getD 123 undef, ts.getD 124 undef, ts.getD 125 undef, ts.getD 126 undef, ts.getD 127 undef, ts.getD 128 undef, ts.getD 129 undef, ts.getD 130 undef, ts.getD 131 undef, ts.getD 132 undef, ts.getD 133 undef, ts.getD 134 undef, ts.getD 135 undef, ts.getD 136 undef, ts.getD 137 undef, ts.getD 138 undef, ts.getD 139 undef, ts.getD 140 undef, ts.getD 141 undef, ts.getD 142 undef, ts.getD 143 undef, ts.getD 144 undef, ts.getD 145 undef, ts.getD 146 undef, ts.getD 147 undef, ts.getD 148 undef, ts.getD 149 undef, ts.getD 150 undef, ts.getD 151 undef, ts.getD 152 undef, ts.getD 153 undef, ts.getD 154 undef, ts.getD 155 undef, ts.getD 156 undef, ts.getD 157 undef, ts.getD 158 undef, ts.getD 159 undef, ts.getD 160 undef, ts.getD 161 undef, ts.getD 162 undef, ts.getD 163 undef, ts.getD 164 undef, ts.getD 165 undef, ts.getD 166 undef, ts.getD 167 undef, ts.getD 168 undef, ts.getD 169 undef, ts.getD 170 undef, ts.getD 171 undef, ts.getD 172 undef, ts.getD 173 undef, ts.getD 174 undef, ts.getD 175 undef, ts.getD 176 undef, ts.getD 177 undef, ts.getD 178 undef, ts.getD 179 undef, ts.getD 180 undef, ts.getD 181 undef, ts.getD 182 undef, ts.getD 183 undef, ts.getD 184 undef, ts.getD 185 undef, ts.getD 186 undef, ts.getD 187 undef, ts.getD 188 undef, ts.getD 189 undef, ts.getD 190 undef, ts.getD 191 undef, ts.getD 192 undef, ts.getD 193 undef, ts.getD 194 undef, ts.getD 195 undef, ts.getD 196 undef, ts.getD 197 undef, ts.getD 198 undef, ts.getD 199 undef, ts.getD 200 undef, ts.getD 201 undef] := by
  obtain ⟨l⟩ := ts
  have h1 := list_exp l 202 h
  have h2 : ∀ i, (⟨l⟩ : Array Value).getD i undef = l.getD i undef := fun i => by by_cases h : i < l.length <;> simp [Array.getD, h]
  simp only [h2]
  exact congrArg Array.mk h1
/-- What a step comes to. -/
def StepQ (w : World) (v p F : Nat) (E : Int × Int) (X : Vm) (S : St) (e : Ending) (w' : World) : Prop :=
  e = .returned (.agg #[.int .i64 E.1, .int .i64 E.2]) ∧ VmAt w' v X ∧ MemAt w' p F S ∧ Fr [v, F] w w'
theorem MemAt.ne_vm {w : World} {p F v : Nat} {st : St} {x : Vm} (h : MemAt w p F st) (hv : VmAt w v x) : p ≠ v ∧ F ≠ v := by
  obtain ⟨⟨⟨c2, h2, -⟩, -, -⟩, ⟨c3, h3, -⟩⟩ := h
  exact ⟨Blk.ne_ h2 hv.hb (by decide), Blk.ne_ h3 hv.hb (by decide)⟩
theorem MemAt.ne_ev {w : World} {p F g : Nat} {st : St} {t : TypeId} {cs : Array Value} (h : MemAt w p F st) (hb : Blk w g t cs) (h1 : t ≠ 130) (h2 : t ≠ 136) : p ≠ g ∧ F ≠ g := by
  obtain ⟨⟨⟨c2, k2, -⟩, -, -⟩, ⟨c3, k3, -⟩⟩ := h
  exact ⟨Blk.ne_ k2 hb (fun e => h1 e.symm), Blk.ne_ k3 hb (fun e => h2 e.symm)⟩
/-- At the label 'done'. -/
def JD (w : World) (v p F ev : Nat) (E : Int × Int) (X : Vm) (S : St) (a : Act) (W : World) : Prop :=
  ∃ ts : Array Value, a = { tmps := ts, defers := [] } ∧ ts.size = 202 ∧ ts.getD 0 undef = ptr v ∧ ts.getD 6 undef = ptr ev ∧ ∃ (nx : Int) (x : Vm), ts.getD 13 undef = .int .u32 nx ∧ u32b nx ∧ VmAt W v x ∧ putP x nx = X ∧ MemAt W p F S ∧ Fr [v, F] w W ∧ Blk W ev 65 #[.int .i64 E.1, .int .i64 E.2] ∧ w.heap.size ≤ ev
/-- The end of a step. -/
theorem done_end {w W : World} {v p F ev : Nat} {E : Int × Int} {X : Vm} {S : St} {nx : Int} {x : Vm} (hn : u32b nx) (hv : VmAt W v x) (hX : putP x nx = X) (hm : MemAt W p F S) (hf : Fr [v, F] w W) (hb : Blk W ev 65 #[.int .i64 E.1, .int .i64 E.2]) (he : w.heap.size ≤ ev) :
    Blk (((W.setCell ⟨v, 16, none⟩ (.int .u32 nx)).setCell ⟨ev, 0, none⟩ (.int .i64 E.1)).setCell ⟨ev, 1, none⟩ (.int .i64 E.2)) ev 65 #[.int .i64 E.1, .int .i64 E.2] ∧ StepQ w v p F E X S (.returned (.agg #[.int .i64 E.1, .int .i64 E.2])) (((W.setCell ⟨v, 16, none⟩ (.int .u32 nx)).setCell ⟨ev, 0, none⟩ (.int .i64 E.1)).setCell ⟨ev, 1, none⟩ (.int .i64 E.2)) := by
  obtain ⟨n1, n2⟩ := hm.ne_vm hv
  obtain ⟨n3, n4⟩ := hm.ne_ev hb (by decide) (by decide)
  have n5 : v ≠ ev := Blk.ne_ hv.hb hb (by decide)
  have b1 := hb.far (p := ⟨v, 16, none⟩) (fun e => n5 e.symm) (.int .u32 nx)
  refine ⟨(b1.set_ 0 _).set_ 1 _, rfl, ?_, ?_, ?_⟩
  · rw [← hX]
    exact ((hv.setP hn).fr ((Fr.refl [ev] _).setCell (p := ⟨ev, 0, none⟩) (.inl (by simp)) _) (by simp; omega)).fr ((Fr.refl [ev] _).setCell (p := ⟨ev, 1, none⟩) (.inl (by simp)) _) (by simp; omega)
  · exact ((hm.to ((Fr.refl [v] _).setCell (p := ⟨v, 16, none⟩) (.inl (by simp)) _) (by simp; omega) (by simp; omega)).to ((Fr.refl [ev] _).setCell (p := ⟨ev, 0, none⟩) (.inl (by simp)) _) (by simp; omega) (by simp; omega)).to ((Fr.refl [ev] _).setCell (p := ⟨ev, 1, none⟩) (.inl (by simp)) _) (by simp; omega) (by simp; omega)
  · exact ((hf.setCell (p := ⟨v, 16, none⟩) (.inl (by simp)) _).setCell (p := ⟨ev, 0, none⟩) (.inr he) _).setCell (p := ⟨ev, 1, none⟩) (.inr he) _
set_option maxHeartbeats 4000000 in
theorem pass_done (r c : Code) (hc : Try.f34.body = some (.seq r (.scope c))) (J : Nat → Act → World → Prop) (w : World) (v p F ev : Nat) (E : Int × Int) (X : Vm) (S : St) (a : Act) (W : World) (h : JD w v p F ev E X S a W) :
    ∃ rest, findLabel c 0 = some rest ∧ rest.wp Try.prog (jumps J (bodyPost Try.prog Try.f34 (StepQ w v p F E X S))) a W := by
  cases hc
  refine ⟨_, rfl, ?_⟩
  obtain ⟨ts, rfl, hs, h0, h6, nx, x, h13, hn, hv, hX, hm, hf, hb, he⟩ := h
  rw [expand202 ts hs, h0, h6, h13]
  have HE := Lib.hid (done_end hn hv hX hm hf hb he)
  have c16 := hv.place
  have cf := hv.frozen
  have e0 : W.cell? ⟨ev, 0, none⟩ = some (.int .i64 E.1) := hb.cell 0
  have e1 : W.cell? ⟨ev, 1, none⟩ = some (.int .i64 E.2) := hb.cell 1
  have ef := hb.frozen
  have hne : v ≠ ev := Blk.ne_ hv.hb hb (by decide)
  have hne2 : ev ≠ v := fun e => hne e.symm
  clear hs h0 h6 h13 hn hv hX hm hf hb he
  refine wp_seq (wp_skip ?_)
  go_wp2
  unfold jumps
  refine bodyPost_ret (v := .agg #[.int .i64 E.1, .int .i64 E.2]) ?_ rfl HE.out.2
  exact results_cell_row Try.results34 _ _ ev 65 _ (0, 0) _ rfl HE.out.1 Try.underlying65 rfl (by kernel_rfl)
/-- At the label 'jump'. -/
def JJ (w : World) (v p F ev : Nat) (E : Int × Int) (X : Vm) (S : St) (a : Act) (W : World) : Prop :=
  ∃ ts : Array Value, a = { tmps := ts, defers := [] } ∧ ts.size = 202 ∧ ts.getD 0 undef = ptr v ∧ ts.getD 6 undef = ptr ev ∧ ∃ (ii : Nat) (nx o a' b' m : Int) (x : Vm), ts.getD 7 undef = ptr ii ∧ ts.getD 13 undef = .int .u32 nx ∧ Blk W ii 53 #[.int .i64 o, .int .i64 a', .int .i64 b', .int .i64 m] ∧ VmAt W v x ∧ putP x ((nx + 4 * m) % 4294967296) = X ∧ MemAt W p F S ∧ Fr [v, F] w W ∧ Blk W ev 65 #[.int .i64 E.1, .int .i64 E.2] ∧ w.heap.size ≤ ev
set_option maxHeartbeats 4000000 in
theorem pass_jump (r c : Code) (hc : Try.f34.body = some (.seq r (.scope c))) (J : Nat → Act → World → Prop) (w : World) (v p F ev : Nat) (E : Int × Int) (X : Vm) (S : St) (a : Act) (W : World) (h : JJ w v p F ev E X S a W) :
    ∃ rest, findLabel c 2 = some rest ∧ rest.wp Try.prog (jumps J (bodyPost Try.prog Try.f34 (StepQ w v p F E X S))) a W := by
  cases hc
  refine ⟨_, rfl, ?_⟩
  obtain ⟨ts, rfl, hs, h0, h6, ii, nx, o, a', b', m, x, h7, h13, hi, hv, hX, hm, hf, hb, he⟩ := h
  rw [expand202 ts hs, h0, h6, h7, h13]
  have hn : u32b ((nx + 4 * m) % 4294967296) := by unfold u32b; omega
  have HE := Lib.hid (done_end hn hv hX hm hf hb he)
  have i3 : W.cell? ⟨ii, 3, none⟩ = some (.int .i64 m) := hi.cell 3
  have c16 := hv.place
  have cf := hv.frozen
  have e0 : W.cell? ⟨ev, 0, none⟩ = some (.int .i64 E.1) := hb.cell 0
  have e1 : W.cell? ⟨ev, 1, none⟩ = some (.int .i64 E.2) := hb.cell 1
  have ef := hb.frozen
  have hne : v ≠ ev := Blk.ne_ hv.hb hb (by decide)
  have hne2 : ev ≠ v := fun e => hne e.symm
  have hq : (nx + 4 * (m % 4294967296) % 4294967296) % 4294967296 = (nx + 4 * m) % 4294967296 := by omega
  have hq2 : (nx + 4 * (m % 4294967296)) % 4294967296 = (nx + 4 * m) % 4294967296 := by omega
  clear hs h0 h6 h7 h13 hn hv hX hm hf hb he hi
  refine wp_seq (wp_skip ?_)
  go_wp2
  go_step3
  go_wp2
  unfold jumps
  refine bodyPost_ret (v := .agg #[.int .i64 E.1, .int .i64 E.2]) ?_ rfl HE.out.2
  exact results_cell_row Try.results34 _ _ ev 65 _ (0, 0) _ rfl HE.out.1 Try.underlying65 rfl (by kernel_rfl)
end Go.Proofs.Ytonongaakieciaa

/- read, of the program: the way to the label. -/
import Derived.Test.YtbmaecdlkchkeaaGreatDoorI3
import Derived.Test.YtbmaecdlkchkeaaGreatDoorI4
import Derived.Test.YtbmaecdlkchkeaaGreatDoorI6
import Derived.Test.YtbmaecdlkchkeaaGreatDoorI12
import Derived.Test.YtbmaecdlkchkeaaGreatDoorI19
import Derived.ScopeJumps
namespace Go.Proofs.YtbmaecdlkchkeaaGreatDoor
open Go.RowKit
set_option linter.unusedVariables false
set_option linter.unusedSimpArgs false
set_option maxRecDepth 100000
abbrev rowB (l : List (List UInt8)) : Array Value := (l.map fun x => Value.string ⟨x.toArray⟩).toArray
theorem split_any (s : ByteArray) (hs : s.size ≤ 4294967280) (c : UInt8) (w : World) (hm : ∃ m, w.cell? ⟨0, 0, none⟩ = some (.int .i64 m)) : Calls Tryz.prog 18 #[.string s, .string ⟨#[c]⟩] w fun e w' => e = .returned (.slice (some ⟨w.heap.size, 0, none⟩) ((splitC c s.data.toList).length) ((splitC c s.data.toList).length)) ∧ w' = w.alloc (.cells (rowB (splitC c s.data.toList)) 9) := by
  obtain ⟨m, hm⟩ := hm
  refine (Tryz.strings_Split s ⟨#[c]⟩ m w (by omega) hm (Nat.le_refl 1)).mono ?_
  rintro e w' ⟨rfl, rfl⟩
  rw [splitB_C, countB_C]
  exact ⟨rfl, rfl⟩
theorem splitC_len (c : UInt8) : ∀ (l : List UInt8) (x : List UInt8), x ∈ splitC c l → x.length ≤ l.length
  | [], x, h => by
    have : x = [] := by simpa [splitC] using h
    subst this
    exact Nat.le_refl _
  | b :: r, x, h => by
    have ih := splitC_len c r
    unfold splitC at h
    split at h
    · rcases List.mem_cons.1 h with rfl | h
      · simp
      · have := ih x h
        simp only [List.length_cons]
        omega
    · cases hs : splitC c r with
      | nil => exact absurd hs (splitC_ne c r)
      | cons y t =>
        rw [hs] at h ih
        rcases List.mem_cons.1 h with rfl | h
        · have := ih y (by simp)
          simp only [List.length_cons]
          omega
        · have := ih x (by simp [h])
          simp only [List.length_cons]
          omega
theorem bw_eq (a b : List UInt8) : ((⟨a.toArray⟩ : ByteArray).toList == b) = decide (a = b) := by
  rw [ByteArray.toList_eq]
  by_cases h : a = b
  · subst h; simp
  · rw [decide_eq_false h]; simpa using h
theorem wp_scope_pass {P : Program} {a : Act} {w : World} {Q : Exit → Act → World → Prop} {c rest : Code} (l : Nat) (J : Act → World → Prop) (μ : Act → World → Nat) (hf : findLabel c l = some (.seq .skip rest))
    (pass : ∀ a w, J a w → rest.wp P (Exit.jump l (fun a' w' => J a' w' ∧ μ a' w' < μ a w) Q) a w)
    (first : (∀ a w, J a w → rest.wp P (Exit.jump l J Q) a w) → c.wp P (Exit.jump l J Q) a w) : (Code.scope c).wp P Q a w := by
  refine wp_scope_jumps l J μ hf (first fun a w h => ?_) (fun a w h => wp_seq (wp_skip (pass a w h)))
  intro b k cs
  obtain ⟨e, a', w', hq, harr⟩ := pass a w h b k cs
  refine ⟨e, a', w', ?_, harr⟩
  cases e with
  | goto l' => exact ⟨hq.1, hq.2.1⟩
  | normal => exact hq
  | exit id => exact hq
  | ret => exact hq
  | panic ch => exact hq
  | outgrown => exact hq
theorem list_exp127 (l : List Value) : ∀ n, l.length = n → l = (List.range n).map fun i => l.getD i undef := by
  intro n h
  refine List.ext_getElem? fun j => ?_
  by_cases hj : j < n
  · simp [hj, h]
  · rw [List.getElem?_eq_none (by omega), List.getElem?_eq_none (by simp; omega)]
theorem expand127 (ts : Array Value) (h : ts.size = 127) : ts = (ts.getD 0 undef :: ts.getD 1 undef :: ts.getD 2 undef :: ts.getD 3 undef :: ts.getD 4 undef :: ts.getD 5 undef :: ts.getD 6 undef :: ts.getD 7 undef :: ts.getD 8 undef :: ts.getD 9 undef :: ts.getD 10 undef :: ts.getD 11 undef :: ts.getD 12 undef :: ts.getD 13 undef :: ts.getD 14 undef :: ts.getD 15 undef :: ts.getD 16 undef :: ts.getD 17 undef :: ts.getD 18 undef :: ts.getD 19 undef :: ts.getD 20 undef :: ts.getD 21 undef :: ts.getD 22 undef :: ts.getD 23 undef :: ts.getD 24 undef :: ts.getD 25 undef :: ts.getD 26 undef :: ts.getD 27 undef :: ts.getD 28 undef :: ts.getD 29 undef :: ts.getD 30 undef :: ts.getD 31 undef :: ts.getD 32 undef :: ts.getD 33 undef :: ts.getD 34 undef :: ts.getD 35 undef :: ts.getD 36 undef :: ts.getD 37 undef :: ts.getD 38 undef :: ts.getD 39 undef :: ts.getD 40 undef :: ts.getD 41 undef :: ts.getD 42 undef :: ts.getD 43 undef :: ts.getD 44 undef :: ts.getD 45 undef :: ts.getD 46 undef :: ts.getD 47 undef :: ts.getD 48 undef :: ts.getD 49 undef :: ts.getD 50 undef :: ts.getD 51 undef :: ts.getD 52 undef :: ts.getD 53 undef :: ts.getD 54 undef :: ts.getD 55 undef :: ts.getD 56 undef :: ts.getD 57 undef :: ts.getD 58 undef :: ts.getD 59 undef :: ts.getD 60 undef :: ts.getD 61 undef :: ts.getD 62 undef :: ts.getD 63 undef :: ts.getD 64 undef :: ts.getD 65 undef :: ts.getD 66 undef :: ts.getD 67 undef :: ts.getD 68 undef :: ts.getD 69 undef :: ts.getD 70 undef :: ts.getD 71 undef :: ts.getD 72 undef :: ts.getD 73 undef :: ts.getD 74 undef :: ts.getD 75 undef :: ts.getD 76 undef :: ts.getD 77 undef :: ts.getD 78 undef :: ts.getD 79 undef :: ts.getD 80 undef :: ts.getD 81 undef :: ts.getD 82 undef :: ts.getD 83 undef :: ts.getD 84 undef :: ts.getD 85 undef :: ts.getD 86 undef :: ts.getD 87 undef :: ts.getD 88 undef :: ts.getD 89 undef :: ts.getD 90 undef :: ts.getD 91 undef :: ts.getD 92 undef :: ts.getD 93 undef :: ts.getD 94 undef :: ts.getD 95 undef :: ts.getD 96 undef :: ts.getD 97 undef :: ts.getD 98 undef :: ts.getD 99 undef :: ts.getD 100 undef :: ts.getD 101 undef :: ts.getD 102 undef :: ts.getD 103 undef :: ts.getD 104 undef :: ts.getD 105 undef :: ts.getD 106 undef :: ts.getD 107 undef :: ts.getD 108 undef :: ts.getD 109 undef :: ts.getD 110 undef :: ts.getD 111 undef :: ts.getD 112 undef :: ts.getD 113 undef :: ts.getD 114 undef :: ts.getD 115 undef :: ts.getD 116 undef :: ts.getD 117 undef :: ts.getD 118 undef :: ts.getD 119 undef :: ts.getD 120 undef :: ts.getD 121 undef :: ts.getD 122 undef :: ts.getD 123 undef :: ts.getD 124 undef :: ts.getD 125 undef :: ts.getD 126 undef :: []).toArray := by
  obtain ⟨l⟩ := ts
  have h1 := list_exp127 l 127 h
  have h2 : ∀ i, (⟨l⟩ : Array Value).getD i undef = l.getD i undef := fun i => by by_cases h : i < l.length <;> simp [Array.getD, h]
  simp only [h2]
  exact congrArg Array.mk h1
def opI (o : Option Nat) : Int := match o with | some k => (k : Int) | none => 0
def opF (o : Option Nat) : ByteArray := match o with | some k => fm k | none => ⟨#[]⟩
/-- What stands at the label. -/
def RdJ (s : ByteArray) (lab : Bool) (w : World) (ws : List (List UInt8)) (k : Nat) (FT : Option (In × List UInt8)) (a : Act) (W : World) : Prop :=
  ∃ (ts : Array Value) (p : Nat) (i : In) (lb : List UInt8), a = { tmps := ts, defers := [] } ∧ ts.size = 127 ∧ ts.getD 0 undef = .string s ∧ ts.getD 1 undef = .bool lab ∧ ts.getD 4 undef = .pointer (some ⟨w.heap.size, 0, none⟩) ∧ ts.getD 5 undef = .string ⟨lb.toArray⟩ ∧ ts.getD 6 undef = .bool true ∧
    ts.getD 7 undef = .slice (some ⟨w.heap.size + 1, 0, none⟩) ws.length ws.length ∧ ts.getD 8 undef = .string (fm k) ∧ ts.getD 9 undef = .int .i64 (p : Int) ∧ p ≤ (fmL k).length ∧ k < 30 ∧ (ws.drop 1).length = (fmL k).length ∧ opU (ws.headD []) 30 = some k ∧ fieldsG numP (fun _ => numP) lab k ((fmL k).drop p) ((ws.drop 1).drop p) i lb = FT ∧ i.op = (k : Int) ∧
    Blk W w.heap.size 55 #[.int .i64 i.op, .int .i64 i.a, .int .i64 i.b, .int .i64 i.m] ∧ Blk W (w.heap.size + 1) 9 (rowB ws) ∧ Fr [] w W
section
variable {rd : List UInt8 → Option Int} {rm : UInt8 → List UInt8 → Option Int} {lab : Bool} {k : Nat} {f v : List UInt8} {vs : List (List UInt8)} {i : In} {lb : List UInt8}
theorem fg97 {r : List UInt8} : fieldsG rd rm lab k (97 :: f) ((114 :: r) :: vs) i lb = match rd r with | some n => fieldsG rd rm lab k f vs { i with a := n } lb | none => none := rfl
theorem fg98 {r : List UInt8} : fieldsG rd rm lab k (98 :: f) ((114 :: r) :: vs) i lb = match rd r with | some n => fieldsG rd rm lab k f vs { i with b := n } lb | none => none := rfl
theorem fg_no {c : UInt8} (hc : c = 97 ∨ c = 98) (h : ∀ r, v ≠ 114 :: r) : fieldsG rd rm lab k (c :: f) (v :: vs) i lb = none := by
  unfold fieldsG
  rw [if_pos hc]
  split
  · next r => exact absurd rfl (h r)
  · rfl
theorem fg_num {c : UInt8} (hc : c = 117 ∨ c = 115) (h : ¬ (lab = true ∧ c = 115 ∧ k ≠ 19 ∧ v.head? = some 64 ∧ isLab v.tail = true)) : fieldsG rd rm lab k (c :: f) (v :: vs) i lb = match rm c v with | some n => fieldsG rd rm lab k f vs { i with m := n } lb | none => none := by
  conv => lhs; unfold fieldsG
  rw [if_neg (by rcases hc with rfl | rfl <;> decide), if_neg h]
  cases rm c v <;> rfl
theorem fg_lab {r : List UInt8} (h1 : lab = true) (h2 : k ≠ 19) (h3 : isLab r = true) : fieldsG rd rm lab k (115 :: f) ((64 :: r) :: vs) i lb = fieldsG rd rm lab k f vs i r := by
  conv => lhs; unfold fieldsG
  rw [if_neg (by decide), if_pos ⟨h1, rfl, h2, rfl, h3⟩]
  rfl
end
theorem pre_yes (c : UInt8) (r : List UInt8) : Lib.hasPrefix (c :: r) [c] = true ∧ Lib.trimPrefix (c :: r) [c] = r := by
  have h : Lib.hasPrefix (c :: r) [c] = true := by simp [Lib.hasPrefix, List.isPrefixOf]
  refine ⟨h, ?_⟩
  unfold Lib.trimPrefix
  rw [if_pos h]
  rfl
theorem pre_no {c : UInt8} {v : List UInt8} (h : ∀ r, v ≠ c :: r) : Lib.hasPrefix v [c] = false ∧ Lib.trimPrefix v [c] = v := by
  have h1 : Lib.hasPrefix v [c] = false := by
    cases v with
    | nil => rfl
    | cons b r =>
      have hb : c ≠ b := fun e => h r (by rw [e])
      simp [Lib.hasPrefix, List.isPrefixOf, hb]
  refine ⟨h1, ?_⟩
  unfold Lib.trimPrefix
  rw [h1]
  rfl
theorem drop_at {α : Type} {l : List α} {p : Nat} {c : α} (h : l[p]? = some c) : l.drop p = c :: l.drop (p + 1) := by
  obtain ⟨hl, rfl⟩ := List.getElem?_eq_some_iff.1 h
  exact List.drop_eq_getElem_cons hl
theorem fm_bytes : ∀ k, k < 30 → ∀ c, c ∈ fmL k → c = 97 ∨ c = 98 ∨ c = 115 ∨ c = 117 := by decide
theorem results_cell_tmp_tmp {fn : Func} {p u v : Tmp} {ty : TypeId} (h : fn.results = #[.cell p ty, .tmp u, .tmp v]) (tmps : Array Value) (P : Program) (w : World) :
    (results fn tmps).run P w =
      ((asAddr (tmps.getD p undef)).run P w).andThen fun a w₁ => ((loadVar ty a).run P w₁).andThen fun x w₂ => .ok (.tuple #[x, tmps.getD u undef, tmps.getD v undef]) w₂ := by
  simp only [results, h]
  simp [Sem.run_bind, Result.andThen]
theorem res24 {tmps : Array Value} {w : World} {g : Nat} {a b : Value} {cs : Array Value} (h2 : tmps.getD 4 undef = .pointer (some ⟨g, 0, none⟩)) (h3 : tmps.getD 5 undef = a) (h4 : tmps.getD 6 undef = b) (hb : Blk w g 55 cs) (hs : cs.size = 4) : (results Tryz.f19 tmps).run Tryz.prog w = .ok (.tuple #[.agg cs, a, b]) w := by
  have h1 : (asAddr (tmps.getD 4 undef)).run Tryz.prog w = .ok ⟨g, 0, none⟩ w := by rw [h2]; rfl
  rw [results_cell_tmp_tmp Tryz.results19, h1, h3, h4]
  have h4 := run_loadVar_row (P := Tryz.prog) w g 55 55 cs (0, 0) _ hb Tryz.underlying55 rfl (by rw [hs]; kernel_rfl)
  simp [Result.andThen, h4]
set_option maxHeartbeats 4000000 in
theorem read_any (s : ByteArray) (lab : Bool) (hs : s.size ≤ 4294967280) (w : World) (hw : Std w) : Calls Tryz.prog 19 #[.string s, .bool lab] w fun e w' => e = .returned (.tuple #[(readV lab s.data.toList).1.v, .string ⟨(readV lab s.data.toList).2.1.toArray⟩, .bool (readV lab s.data.toList).2.2]) ∧ Fr [] w w' := by
  obtain ⟨w0, vs, hsp, -, -, -⟩ := splitC_join 32 s.data.toList
  have hSz : s.data.toList.length = s.size := rfl
  have HSp := Lib.hid (split_any s hs 32)
  have HStd := Lib.hid hw
  have HV : Hid (readV lab s.data.toList = match opU w0 30 with
    | none => (I00, [], false)
    | some k => if vs.length = (fmL k).length then finV k (fieldsG numP (fun _ => numP) lab k (fmL k) vs ⟨k, 0, 0, 0⟩ []) else (I00, [], false)) := Lib.hid (by unfold readV; rw [hsp]; rfl)
  rw [hsp] at HSp
  generalize readV lab s.data.toList = RV at *
  have HO := Lib.hid (fun W => operations_any W)
  have hi := fun k hk W => ops_at k hk W
  obtain ⟨m0, hm0⟩ := hw.mx
  have HM := Lib.hid hm0
  clear hw
  clear hm0
  have HMw : Hid (∀ W, Fr [] w W → ∃ m, W.cell? ⟨0, 0, none⟩ = some (.int .i64 m)) := Lib.hid (fun W h => ⟨m0, h.cell_some HM.out (by simp)⟩)
  have HZ : Hid (∀ n, (((⟨(nmL n).toArray⟩ : ByteArray).toList == w0) = decide (nmL n = w0))) := Lib.hid (fun n => bw_eq _ _)
  generalize hV : opsV = V at *
  generalize hN : (w0 :: vs).length = N at *
  have HN := Lib.hid hN
  clear hN
  have hN0 : 0 < N := by rw [← HN.out]; simp
  go_enter Tryz.func19, Tryz.ntmps19
  go_wp2_with fail
  have HFT : Hid (fieldsG numP (fun _ => numP) lab ((opU w0 30).getD 0) (fmL ((opU w0 30).getD 0)) vs ⟨((opU w0 30).getD 0 : Nat), 0, 0, 0⟩ [] = fieldsG numP (fun _ => numP) lab ((opU w0 30).getD 0) (fmL ((opU w0 30).getD 0)) vs ⟨((opU w0 30).getD 0 : Nat), 0, 0, 0⟩ []) := Lib.hid rfl
  generalize hk0 : (opU w0 30).getD 0 = k0 at *
  refine wp_scope_pass 0 (RdJ s lab w (w0 :: vs) k0 (fieldsG numP (fun _ => numP) lab k0 (fmL k0) vs ⟨(k0 : Nat), 0, 0, 0⟩ [])) (fun a _ => 30 - (intOf (a.tmps.getD 9 undef)).toNat) rfl ?pass ?first
  case pass =>
    clear hi HSp HO HMw HZ hN0 HFT
    rintro a W ⟨ts, p, ⟨op, x, y, z⟩, lb, rfl, hs, t0, t1, t4, t5, t6, t7, t8, t9, hp, hk30, hvs, ho, hF, hop, hb, hr, hf⟩
    rw [HN.out] at t7
    rw [expand127 ts hs, t0, t1, t4, t5, t6, t7, t8, t9]
    clear hs t0 t1 t4 t5 t6 t7 t8 t9
    generalize ts.getD 2 undef = u2 at *; generalize ts.getD 3 undef = u3 at *; generalize ts.getD 10 undef = u10 at *; generalize ts.getD 11 undef = u11 at *; generalize ts.getD 12 undef = u12 at *; generalize ts.getD 13 undef = u13 at *; generalize ts.getD 14 undef = u14 at *; generalize ts.getD 15 undef = u15 at *; generalize ts.getD 16 undef = u16 at *; generalize ts.getD 17 undef = u17 at *; generalize ts.getD 18 undef = u18 at *; generalize ts.getD 19 undef = u19 at *; generalize ts.getD 20 undef = u20 at *; generalize ts.getD 21 undef = u21 at *; generalize ts.getD 22 undef = u22 at *; generalize ts.getD 23 undef = u23 at *; generalize ts.getD 24 undef = u24 at *; generalize ts.getD 25 undef = u25 at *; generalize ts.getD 26 undef = u26 at *; generalize ts.getD 27 undef = u27 at *; generalize ts.getD 28 undef = u28 at *; generalize ts.getD 29 undef = u29 at *; generalize ts.getD 30 undef = u30 at *; generalize ts.getD 31 undef = u31 at *; generalize ts.getD 32 undef = u32 at *; generalize ts.getD 33 undef = u33 at *; generalize ts.getD 34 undef = u34 at *; generalize ts.getD 35 undef = u35 at *; generalize ts.getD 36 undef = u36 at *; generalize ts.getD 37 undef = u37 at *; generalize ts.getD 38 undef = u38 at *; generalize ts.getD 39 undef = u39 at *; generalize ts.getD 40 undef = u40 at *; generalize ts.getD 41 undef = u41 at *; generalize ts.getD 42 undef = u42 at *; generalize ts.getD 43 undef = u43 at *; generalize ts.getD 44 undef = u44 at *; generalize ts.getD 45 undef = u45 at *; generalize ts.getD 46 undef = u46 at *; generalize ts.getD 47 undef = u47 at *; generalize ts.getD 48 undef = u48 at *; generalize ts.getD 49 undef = u49 at *; generalize ts.getD 50 undef = u50 at *; generalize ts.getD 51 undef = u51 at *; generalize ts.getD 52 undef = u52 at *; generalize ts.getD 53 undef = u53 at *; generalize ts.getD 54 undef = u54 at *; generalize ts.getD 55 undef = u55 at *; generalize ts.getD 56 undef = u56 at *; generalize ts.getD 57 undef = u57 at *; generalize ts.getD 58 undef = u58 at *; generalize ts.getD 59 undef = u59 at *; generalize ts.getD 60 undef = u60 at *; generalize ts.getD 61 undef = u61 at *; generalize ts.getD 62 undef = u62 at *; generalize ts.getD 63 undef = u63 at *; generalize ts.getD 64 undef = u64 at *; generalize ts.getD 65 undef = u65 at *; generalize ts.getD 66 undef = u66 at *; generalize ts.getD 67 undef = u67 at *; generalize ts.getD 68 undef = u68 at *; generalize ts.getD 69 undef = u69 at *; generalize ts.getD 70 undef = u70 at *; generalize ts.getD 71 undef = u71 at *; generalize ts.getD 72 undef = u72 at *; generalize ts.getD 73 undef = u73 at *; generalize ts.getD 74 undef = u74 at *; generalize ts.getD 75 undef = u75 at *; generalize ts.getD 76 undef = u76 at *; generalize ts.getD 77 undef = u77 at *; generalize ts.getD 78 undef = u78 at *; generalize ts.getD 79 undef = u79 at *; generalize ts.getD 80 undef = u80 at *; generalize ts.getD 81 undef = u81 at *; generalize ts.getD 82 undef = u82 at *; generalize ts.getD 83 undef = u83 at *; generalize ts.getD 84 undef = u84 at *; generalize ts.getD 85 undef = u85 at *; generalize ts.getD 86 undef = u86 at *; generalize ts.getD 87 undef = u87 at *; generalize ts.getD 88 undef = u88 at *; generalize ts.getD 89 undef = u89 at *; generalize ts.getD 90 undef = u90 at *; generalize ts.getD 91 undef = u91 at *; generalize ts.getD 92 undef = u92 at *; generalize ts.getD 93 undef = u93 at *; generalize ts.getD 94 undef = u94 at *; generalize ts.getD 95 undef = u95 at *; generalize ts.getD 96 undef = u96 at *; generalize ts.getD 97 undef = u97 at *; generalize ts.getD 98 undef = u98 at *; generalize ts.getD 99 undef = u99 at *; generalize ts.getD 100 undef = u100 at *; generalize ts.getD 101 undef = u101 at *; generalize ts.getD 102 undef = u102 at *; generalize ts.getD 103 undef = u103 at *; generalize ts.getD 104 undef = u104 at *; generalize ts.getD 105 undef = u105 at *; generalize ts.getD 106 undef = u106 at *; generalize ts.getD 107 undef = u107 at *; generalize ts.getD 108 undef = u108 at *; generalize ts.getD 109 undef = u109 at *; generalize ts.getD 110 undef = u110 at *; generalize ts.getD 111 undef = u111 at *; generalize ts.getD 112 undef = u112 at *; generalize ts.getD 113 undef = u113 at *; generalize ts.getD 114 undef = u114 at *; generalize ts.getD 115 undef = u115 at *; generalize ts.getD 116 undef = u116 at *; generalize ts.getD 117 undef = u117 at *; generalize ts.getD 118 undef = u118 at *; generalize ts.getD 119 undef = u119 at *; generalize ts.getD 120 undef = u120 at *; generalize ts.getD 121 undef = u121 at *; generalize ts.getD 122 undef = u122 at *; generalize ts.getD 123 undef = u123 at *; generalize ts.getD 124 undef = u124 at *; generalize ts.getD 125 undef = u125 at *; generalize ts.getD 126 undef = u126 at *
    clear ts
    simp only [List.drop_succ_cons, List.drop_zero, List.headD_cons] at hvs hF ho
    simp only at hop
    subst hop
    have HRV : Hid (RV = finV k0 (fieldsG numP (fun _ => numP) lab k0 (fmL k0) vs ⟨(k0 : Nat), 0, 0, 0⟩ [])) := Lib.hid (by
      have h := HV.out
      rw [ho] at h
      simp only at h
      rw [if_pos hvs] at h
      exact h)
    have hfs : (fm k0).size = (fmL k0).length := rfl
    have hF8 : (fm k0).size ≤ 8 := (fm_small k0 hk30).1
    have c0 : W.cell? ⟨w.heap.size, 0, none⟩ = some (.int .i64 (k0 : Int)) := hb.cell 0
    have c1 : W.cell? ⟨w.heap.size, 1, none⟩ = some (.int .i64 x) := hb.cell 1
    have c2 : W.cell? ⟨w.heap.size, 2, none⟩ = some (.int .i64 y) := hb.cell 2
    have c3 : W.cell? ⟨w.heap.size, 3, none⟩ = some (.int .i64 z) := hb.cell 3
    have f0 := hb.frozen
    have Hb := Lib.hid hb
    have Hr := Lib.hid hr
    have Hf := Lib.hid hf
    clear hb hr hf HV
    by_cases hlt : p < (fmL k0).length
    · have hvl : p < vs.length := by omega
      obtain ⟨c, hc⟩ : ∃ c, (fmL k0)[p]? = some c := ⟨_, List.getElem?_eq_getElem hlt⟩
      obtain ⟨v, hv⟩ : ∃ v, vs[p]? = some v := ⟨_, List.getElem?_eq_getElem hvl⟩
      rw [drop_at hc, drop_at hv] at hF
      have hcc : c = 97 ∨ c = 98 ∨ c = 115 ∨ c = 117 := fm_bytes k0 hk30 c (List.mem_of_getElem? hc)
      have hcell : W.cell? ⟨w.heap.size + 1, p + 1, none⟩ = some (.string ⟨v.toArray⟩) := by
        have h := Hr.out.cell (p + 1)
        rw [h]
        unfold rowB
        rw [List.getElem?_toArray, List.getElem?_map, List.getElem?_cons_succ, hv]
        rfl
      have hfr := Hr.out.frozen (p + 1)
      have hidx : ∀ h, ((fm k0)[p]'h) = c := fun h => by
        have e : (fmL k0)[p]? = some ((fm k0)[p]'h) := List.getElem?_eq_getElem (by exact h)
        rw [hc] at e
        injection e with e
        exact e.symm
      have hp0 : (0 : Int) ≤ (p : Int) := by omega
      have hp1 : (0 : Int) ≤ (p : Int) + 1 := by omega
      have hpN : (p : Int) + 1 < (N : Int) := by rw [← HN.out, List.length_cons]; omega
      have hpF : (p : Int) < ((fm k0).size : Int) := by omega
      have hpF2 : p < (fm k0).size := by omega
      have hq : ((p : Int) == ((fm k0).size : Int)) = false := by rw [beq_eq_false_iff_ne]; omega
      have hwr : IntKind.i64.wrap ((p : Int) + 1) = (p : Int) + 1 := IntWalk.i64_in _ (by omega)
      have hwr2 : IntKind.i64.wrap ((p : Int) + 1 - 1) = (p : Int) := by rw [show (p : Int) + 1 - 1 = (p : Int) by omega]; exact IntWalk.i64_in _ (by omega)
      have hw3 : (p : Int) + 1 - 1 = (p : Int) := by omega
      have hnt : ((p : Int) + 1).toNat = p + 1 := by omega
      have HF := Lib.hid hF
      have HP := Lib.hid hp
      have HLT := Lib.hid hlt
      have HVS := Lib.hid hvs
      have HO := Lib.hid ho
      have HVL : Hid (v.length ≤ 4294967280) := Lib.hid (by
        have := splitC_len 32 s.data.toList v (by rw [hsp]; exact List.mem_cons_of_mem _ (List.mem_of_getElem? hv))
        omega)
      clear hF hp hlt hvs ho hvl hc hv hfs hsp hSz hs
      have HNum := Lib.hid (fun W hW => number_any ⟨v.toArray⟩ (by show v.length ≤ _; have := HVL.out; omega) W hW)
      have HCut1 := Lib.hid (fun W => Tryz.strings_CutPrefix ⟨v.toArray⟩ ⟨#[114]⟩ W)
      have HCut2 := Lib.hid (fun W => Tryz.strings_CutPrefix ⟨v.toArray⟩ ⟨#[64]⟩ W)
      rcases hcc with rfl | rfl | rfl | rfl
      · by_cases hr : ∃ r, v = 114 :: r
        · obtain ⟨r, rfl⟩ := hr
          have HNum := Lib.hid (fun W hW => number_any ⟨r.toArray⟩ (by show r.length ≤ _; have := HVL.out; rw [List.length_cons] at this; omega) W hW)
          have hcut : ∀ W, Calls Tryz.prog 50 #[.string ⟨(114 :: r).toArray⟩, .string ⟨#[114]⟩] W fun e w' => e = .returned (.tuple #[.string ⟨r.toArray⟩, .bool true]) ∧ w' = W := fun W => by
            have h := HCut1.out W
            rw [(pre_yes 114 r).1, (pre_yes 114 r).2] at h
            exact h
          have HCut := Lib.hid hcut
          clear hcut HCut1 HCut2
          cases hn : numP r with
          | none =>
            have HX : Hid (fieldsG numP (fun _ => numP) lab k0 (97 :: (fmL k0).drop (p + 1)) ((114 :: r) :: vs.drop (p + 1)) ⟨(k0 : Int), x, y, z⟩ lb = none) := Lib.hid (by rw [fg97, hn])
            have HNum : Hid (∀ W, Std W → Calls Tryz.prog 51 #[.string ⟨r.toArray⟩] W fun e w' => Fr [] W w' ∧ ∃ n' : Int, e = .returned (.tuple #[.int .i64 n', .bool false]) ∧ (∀ n, numP r = some n → n' = n)) := Lib.hid (fun W hW => by have h := HNum.out W hW; rw [show (⟨r.toArray⟩ : ByteArray).data.toList = r from rfl, hn] at h; rw [hn]; exact h)
            clear hn
            go_wp2_with (first
              | (go_at_call 50; refine (HCut.out _).mono ?_; rintro e w1 ⟨rfl, rfl⟩)
              | (go_at_call 51; refine (HNum.out _ (HStd.out.fr Hf.out)).mono ?_; rintro e w2 ⟨hf, n', rfl, hv⟩; have HN2 := Lib.hid hv; have HB2 := Lib.hid (Hb.out.fr hf (by simp)); have HR2 := Lib.hid (Hr.out.fr hf (by simp)); have HF2 := Lib.hid (Hf.out.trans hf); have b0 := hf.cell_some c0 (by simp); have b1 := hf.cell_some c1 (by simp); have b2 := hf.cell_some c2 (by simp); have b3 := hf.cell_some c3 (by simp); have g0 := HB2.out.frozen; clear hf hv c0 c1 c2 c3 f0)
              | fail)
            unfold Exit.jump
            exact bodyPost_ret (v := .tuple #[.agg #[.int .i64 0, .int .i64 0, .int .i64 0, .int .i64 0], .string ⟨#[]⟩, .bool false]) (res24 rfl rfl rfl (Blk.set4 ((HB2.out.set_ 1 _)) _ _ _ _) rfl) rfl ⟨by rw [HRV.out, ← HF.out, HX.out]; rfl, Fr.set4 (HF2.out.setCell (p := ⟨w.heap.size, 1, none⟩) (Or.inr (Nat.le_refl _)) _) (Or.inr (Nat.le_refl _)) _ _ _ _⟩
          | some n =>
            have HNum : Hid (∀ W, Std W → Calls Tryz.prog 51 #[.string ⟨r.toArray⟩] W fun e w' => Fr [] W w' ∧ ∃ n' : Int, e = .returned (.tuple #[.int .i64 n', .bool true]) ∧ n' = n) := Lib.hid (fun W hW => by have h := HNum.out W hW; rw [show (⟨r.toArray⟩ : ByteArray).data.toList = r from rfl, hn] at h; refine h.mono ?_; rintro e w' ⟨h1, n', h2, h3⟩; exact ⟨h1, n', h2, h3 n rfl⟩)
            have HX : Hid (fieldsG numP (fun _ => numP) lab k0 (97 :: (fmL k0).drop (p + 1)) ((114 :: r) :: vs.drop (p + 1)) ⟨(k0 : Int), x, y, z⟩ lb = fieldsG numP (fun _ => numP) lab k0 ((fmL k0).drop (p + 1)) (vs.drop (p + 1)) ⟨(k0 : Int), n, y, z⟩ lb) := Lib.hid (by rw [fg97, hn])
            clear hn
            go_wp2_with (first
              | (go_at_call 50; refine (HCut.out _).mono ?_; rintro e w1 ⟨rfl, rfl⟩)
              | (go_at_call 51; refine (HNum.out _ (HStd.out.fr Hf.out)).mono ?_; rintro e w2 ⟨hf, n', rfl, hv⟩; have HN2 := Lib.hid hv; have HB2 := Lib.hid (Hb.out.fr hf (by simp)); have HR2 := Lib.hid (Hr.out.fr hf (by simp)); have HF2 := Lib.hid (Hf.out.trans hf); have b0 := hf.cell_some c0 (by simp); have b1 := hf.cell_some c1 (by simp); have b2 := hf.cell_some c2 (by simp); have b3 := hf.cell_some c3 (by simp); have g0 := HB2.out.frozen; clear hf hv c0 c1 c2 c3 f0)
              | fail)
            refine wp_goto ?_
            refine ⟨rfl, ⟨_, p + 1, ⟨(k0 : Int), n', y, z⟩, lb, rfl, ?_⟩, ?_⟩
            · have hn := HN2.out; subst hn
              exact ⟨rfl, rfl, rfl, rfl, rfl, rfl, by rw [HN.out]; rfl, rfl, rfl, by have := HLT.out; omega, hk30, HVS.out, HO.out, HX.out.symm.trans HF.out, rfl, HB2.out.set_ 1 _, HR2.out.far (p := ⟨w.heap.size, 1, none⟩) (by simp) _, HF2.out.setCell (p := ⟨w.heap.size, 1, none⟩) (Or.inr (Nat.le_refl _)) _⟩
            · show 30 - ((p : Int) + 1).toNat < 30 - ((p : Int)).toNat
              omega
        · have hr : ∀ r, v ≠ 114 :: r := fun r e => hr ⟨r, e⟩
          have HX : Hid (fieldsG numP (fun _ => numP) lab k0 (97 :: (fmL k0).drop (p + 1)) (v :: vs.drop (p + 1)) ⟨(k0 : Int), x, y, z⟩ lb = none) := Lib.hid (fg_no (by decide) hr)
          have hcut : ∀ W, Calls Tryz.prog 50 #[.string ⟨v.toArray⟩, .string ⟨#[114]⟩] W fun e w' => e = .returned (.tuple #[.string ⟨v.toArray⟩, .bool false]) ∧ w' = W := fun W => by
            have h := HCut1.out W
            rw [(pre_no hr).1, (pre_no hr).2] at h
            exact h
          have HCut := Lib.hid hcut
          clear hcut HCut1 HCut2 hr
          go_wp2_with (first
            | (go_at_call 50; refine (HCut.out _).mono ?_; rintro e w1 ⟨rfl, rfl⟩)
            | (go_at_call 51; refine (HNum.out _ (HStd.out.fr Hf.out)).mono ?_; rintro e w2 ⟨hf, n', rfl, hv⟩; have HN2 := Lib.hid hv; have HB2 := Lib.hid (Hb.out.fr hf (by simp)); have HR2 := Lib.hid (Hr.out.fr hf (by simp)); have HF2 := Lib.hid (Hf.out.trans hf); have b0 := hf.cell_some c0 (by simp); have b1 := hf.cell_some c1 (by simp); have b2 := hf.cell_some c2 (by simp); have b3 := hf.cell_some c3 (by simp); have g0 := HB2.out.frozen; clear hf hv c0 c1 c2 c3 f0)
            | fail)
          all_goals
            unfold Exit.jump
            exact bodyPost_ret (v := .tuple #[.agg #[.int .i64 0, .int .i64 0, .int .i64 0, .int .i64 0], .string ⟨#[]⟩, .bool false]) (res24 rfl rfl rfl (Blk.set4 ((HB2.out.set_ 1 _)) _ _ _ _) rfl) rfl ⟨by rw [HRV.out, ← HF.out, HX.out]; rfl, Fr.set4 (HF2.out.setCell (p := ⟨w.heap.size, 1, none⟩) (Or.inr (Nat.le_refl _)) _) (Or.inr (Nat.le_refl _)) _ _ _ _⟩
      · by_cases hr : ∃ r, v = 114 :: r
        · obtain ⟨r, rfl⟩ := hr
          have HNum := Lib.hid (fun W hW => number_any ⟨r.toArray⟩ (by show r.length ≤ _; have := HVL.out; rw [List.length_cons] at this; omega) W hW)
          have hcut : ∀ W, Calls Tryz.prog 50 #[.string ⟨(114 :: r).toArray⟩, .string ⟨#[114]⟩] W fun e w' => e = .returned (.tuple #[.string ⟨r.toArray⟩, .bool true]) ∧ w' = W := fun W => by
            have h := HCut1.out W
            rw [(pre_yes 114 r).1, (pre_yes 114 r).2] at h
            exact h
          have HCut := Lib.hid hcut
          clear hcut HCut1 HCut2
          cases hn : numP r with
          | none =>
            have HX : Hid (fieldsG numP (fun _ => numP) lab k0 (98 :: (fmL k0).drop (p + 1)) ((114 :: r) :: vs.drop (p + 1)) ⟨(k0 : Int), x, y, z⟩ lb = none) := Lib.hid (by rw [fg98, hn])
            have HNum : Hid (∀ W, Std W → Calls Tryz.prog 51 #[.string ⟨r.toArray⟩] W fun e w' => Fr [] W w' ∧ ∃ n' : Int, e = .returned (.tuple #[.int .i64 n', .bool false]) ∧ (∀ n, numP r = some n → n' = n)) := Lib.hid (fun W hW => by have h := HNum.out W hW; rw [show (⟨r.toArray⟩ : ByteArray).data.toList = r from rfl, hn] at h; rw [hn]; exact h)
            clear hn
            go_wp2_with (first
              | (go_at_call 50; refine (HCut.out _).mono ?_; rintro e w1 ⟨rfl, rfl⟩)
              | (go_at_call 51; refine (HNum.out _ (HStd.out.fr Hf.out)).mono ?_; rintro e w2 ⟨hf, n', rfl, hv⟩; have HN2 := Lib.hid hv; have HB2 := Lib.hid (Hb.out.fr hf (by simp)); have HR2 := Lib.hid (Hr.out.fr hf (by simp)); have HF2 := Lib.hid (Hf.out.trans hf); have b0 := hf.cell_some c0 (by simp); have b1 := hf.cell_some c1 (by simp); have b2 := hf.cell_some c2 (by simp); have b3 := hf.cell_some c3 (by simp); have g0 := HB2.out.frozen; clear hf hv c0 c1 c2 c3 f0)
              | fail)
            unfold Exit.jump
            exact bodyPost_ret (v := .tuple #[.agg #[.int .i64 0, .int .i64 0, .int .i64 0, .int .i64 0], .string ⟨#[]⟩, .bool false]) (res24 rfl rfl rfl (Blk.set4 ((HB2.out.set_ 2 _)) _ _ _ _) rfl) rfl ⟨by rw [HRV.out, ← HF.out, HX.out]; rfl, Fr.set4 (HF2.out.setCell (p := ⟨w.heap.size, 2, none⟩) (Or.inr (Nat.le_refl _)) _) (Or.inr (Nat.le_refl _)) _ _ _ _⟩
          | some n =>
            have HNum : Hid (∀ W, Std W → Calls Tryz.prog 51 #[.string ⟨r.toArray⟩] W fun e w' => Fr [] W w' ∧ ∃ n' : Int, e = .returned (.tuple #[.int .i64 n', .bool true]) ∧ n' = n) := Lib.hid (fun W hW => by have h := HNum.out W hW; rw [show (⟨r.toArray⟩ : ByteArray).data.toList = r from rfl, hn] at h; refine h.mono ?_; rintro e w' ⟨h1, n', h2, h3⟩; exact ⟨h1, n', h2, h3 n rfl⟩)
            have HX : Hid (fieldsG numP (fun _ => numP) lab k0 (98 :: (fmL k0).drop (p + 1)) ((114 :: r) :: vs.drop (p + 1)) ⟨(k0 : Int), x, y, z⟩ lb = fieldsG numP (fun _ => numP) lab k0 ((fmL k0).drop (p + 1)) (vs.drop (p + 1)) ⟨(k0 : Int), x, n, z⟩ lb) := Lib.hid (by rw [fg98, hn])
            clear hn
            go_wp2_with (first
              | (go_at_call 50; refine (HCut.out _).mono ?_; rintro e w1 ⟨rfl, rfl⟩)
              | (go_at_call 51; refine (HNum.out _ (HStd.out.fr Hf.out)).mono ?_; rintro e w2 ⟨hf, n', rfl, hv⟩; have HN2 := Lib.hid hv; have HB2 := Lib.hid (Hb.out.fr hf (by simp)); have HR2 := Lib.hid (Hr.out.fr hf (by simp)); have HF2 := Lib.hid (Hf.out.trans hf); have b0 := hf.cell_some c0 (by simp); have b1 := hf.cell_some c1 (by simp); have b2 := hf.cell_some c2 (by simp); have b3 := hf.cell_some c3 (by simp); have g0 := HB2.out.frozen; clear hf hv c0 c1 c2 c3 f0)
              | fail)
            refine wp_goto ?_
            refine ⟨rfl, ⟨_, p + 1, ⟨(k0 : Int), x, n', z⟩, lb, rfl, ?_⟩, ?_⟩
            · have hn := HN2.out; subst hn
              exact ⟨rfl, rfl, rfl, rfl, rfl, rfl, by rw [HN.out]; rfl, rfl, rfl, by have := HLT.out; omega, hk30, HVS.out, HO.out, HX.out.symm.trans HF.out, rfl, HB2.out.set_ 2 _, HR2.out.far (p := ⟨w.heap.size, 2, none⟩) (by simp) _, HF2.out.setCell (p := ⟨w.heap.size, 2, none⟩) (Or.inr (Nat.le_refl _)) _⟩
            · show 30 - ((p : Int) + 1).toNat < 30 - ((p : Int)).toNat
              omega
        · have hr : ∀ r, v ≠ 114 :: r := fun r e => hr ⟨r, e⟩
          have HX : Hid (fieldsG numP (fun _ => numP) lab k0 (98 :: (fmL k0).drop (p + 1)) (v :: vs.drop (p + 1)) ⟨(k0 : Int), x, y, z⟩ lb = none) := Lib.hid (fg_no (by decide) hr)
          have hcut : ∀ W, Calls Tryz.prog 50 #[.string ⟨v.toArray⟩, .string ⟨#[114]⟩] W fun e w' => e = .returned (.tuple #[.string ⟨v.toArray⟩, .bool false]) ∧ w' = W := fun W => by
            have h := HCut1.out W
            rw [(pre_no hr).1, (pre_no hr).2] at h
            exact h
          have HCut := Lib.hid hcut
          clear hcut HCut1 HCut2 hr
          go_wp2_with (first
            | (go_at_call 50; refine (HCut.out _).mono ?_; rintro e w1 ⟨rfl, rfl⟩)
            | (go_at_call 51; refine (HNum.out _ (HStd.out.fr Hf.out)).mono ?_; rintro e w2 ⟨hf, n', rfl, hv⟩; have HN2 := Lib.hid hv; have HB2 := Lib.hid (Hb.out.fr hf (by simp)); have HR2 := Lib.hid (Hr.out.fr hf (by simp)); have HF2 := Lib.hid (Hf.out.trans hf); have b0 := hf.cell_some c0 (by simp); have b1 := hf.cell_some c1 (by simp); have b2 := hf.cell_some c2 (by simp); have b3 := hf.cell_some c3 (by simp); have g0 := HB2.out.frozen; clear hf hv c0 c1 c2 c3 f0)
            | fail)
          all_goals
            unfold Exit.jump
            exact bodyPost_ret (v := .tuple #[.agg #[.int .i64 0, .int .i64 0, .int .i64 0, .int .i64 0], .string ⟨#[]⟩, .bool false]) (res24 rfl rfl rfl (Blk.set4 ((HB2.out.set_ 2 _)) _ _ _ _) rfl) rfl ⟨by rw [HRV.out, ← HF.out, HX.out]; rfl, Fr.set4 (HF2.out.setCell (p := ⟨w.heap.size, 2, none⟩) (Or.inr (Nat.le_refl _)) _) (Or.inr (Nat.le_refl _)) _ _ _ _⟩
      · by_cases hr : ∃ r, v = 64 :: r
        · obtain ⟨r, rfl⟩ := hr
          have hcut : ∀ W, Calls Tryz.prog 50 #[.string ⟨(64 :: r).toArray⟩, .string ⟨#[64]⟩] W fun e w' => e = .returned (.tuple #[.string ⟨r.toArray⟩, .bool true]) ∧ w' = W := fun W => by
            have h := HCut2.out W
            rw [(pre_yes 64 r).1, (pre_yes 64 r).2] at h
            exact h
          have HCut := Lib.hid hcut
          clear hcut HCut1 HCut2
          cases lab with
          | false =>
            have HNo : Hid (¬ (false = true ∧ (115 : UInt8) = 115 ∧ k0 ≠ 19 ∧ (64 :: r).head? = some 64 ∧ isLab (64 :: r).tail = true)) := Lib.hid (by rintro ⟨h, -⟩; cases h)
            cases hn : numP (64 :: r) with
            | none =>
              have HX : Hid (fieldsG numP (fun _ => numP) false k0 (115 :: (fmL k0).drop (p + 1)) ((64 :: r) :: vs.drop (p + 1)) ⟨(k0 : Int), x, y, z⟩ lb = none) := Lib.hid (by rw [fg_num (by decide) HNo.out, hn])
              have HNum : Hid (∀ W, Std W → Calls Tryz.prog 51 #[.string ⟨(64 :: r).toArray⟩] W fun e w' => Fr [] W w' ∧ ∃ n' : Int, e = .returned (.tuple #[.int .i64 n', .bool false]) ∧ True) := Lib.hid (fun W hW => by have h := HNum.out W hW; rw [show (⟨(64 :: r).toArray⟩ : ByteArray).data.toList = 64 :: r from rfl, hn] at h; refine h.mono ?_; rintro e w' ⟨h1, n', h2, h3⟩; exact ⟨h1, n', h2, trivial⟩)
              clear hn
              go_wp2_with (first
                | (go_at_call 50; refine (HCut.out _).mono ?_; rintro e w1 ⟨rfl, rfl⟩)
                | (go_at_call 51; refine (HNum.out _ (HStd.out.fr Hf.out)).mono ?_; rintro e w2 ⟨hf, n', rfl, hv⟩; have HN2 := Lib.hid hv; have HB2 := Lib.hid (Hb.out.fr hf (by simp)); have HR2 := Lib.hid (Hr.out.fr hf (by simp)); have HF2 := Lib.hid (Hf.out.trans hf); have b0 := hf.cell_some c0 (by simp); have b1 := hf.cell_some c1 (by simp); have b2 := hf.cell_some c2 (by simp); have b3 := hf.cell_some c3 (by simp); have g0 := HB2.out.frozen; clear hf hv c0 c1 c2 c3 f0)
                | fail)
              unfold Exit.jump
              exact bodyPost_ret (v := .tuple #[.agg #[.int .i64 0, .int .i64 0, .int .i64 0, .int .i64 0], .string ⟨#[]⟩, .bool false]) (res24 rfl rfl rfl (Blk.set4 ((HB2.out.set_ 3 _)) _ _ _ _) rfl) rfl ⟨by rw [HRV.out, ← HF.out, HX.out]; rfl, Fr.set4 (HF2.out.setCell (p := ⟨w.heap.size, 3, none⟩) (Or.inr (Nat.le_refl _)) _) (Or.inr (Nat.le_refl _)) _ _ _ _⟩
            | some n =>
              have HNum : Hid (∀ W, Std W → Calls Tryz.prog 51 #[.string ⟨(64 :: r).toArray⟩] W fun e w' => Fr [] W w' ∧ ∃ n' : Int, e = .returned (.tuple #[.int .i64 n', .bool true]) ∧ n' = n) := Lib.hid (fun W hW => by have h := HNum.out W hW; rw [show (⟨(64 :: r).toArray⟩ : ByteArray).data.toList = 64 :: r from rfl, hn] at h; refine h.mono ?_; rintro e w' ⟨h1, n', h2, h3⟩; exact ⟨h1, n', h2, h3 n rfl⟩)
              have HX : Hid (fieldsG numP (fun _ => numP) false k0 (115 :: (fmL k0).drop (p + 1)) ((64 :: r) :: vs.drop (p + 1)) ⟨(k0 : Int), x, y, z⟩ lb = fieldsG numP (fun _ => numP) false k0 ((fmL k0).drop (p + 1)) (vs.drop (p + 1)) ⟨(k0 : Int), x, y, n⟩ lb) := Lib.hid (by rw [fg_num (by decide) HNo.out, hn])
              clear hn
              go_wp2_with (first
                | (go_at_call 50; refine (HCut.out _).mono ?_; rintro e w1 ⟨rfl, rfl⟩)
                | (go_at_call 51; refine (HNum.out _ (HStd.out.fr Hf.out)).mono ?_; rintro e w2 ⟨hf, n', rfl, hv⟩; have HN2 := Lib.hid hv; have HB2 := Lib.hid (Hb.out.fr hf (by simp)); have HR2 := Lib.hid (Hr.out.fr hf (by simp)); have HF2 := Lib.hid (Hf.out.trans hf); have b0 := hf.cell_some c0 (by simp); have b1 := hf.cell_some c1 (by simp); have b2 := hf.cell_some c2 (by simp); have b3 := hf.cell_some c3 (by simp); have g0 := HB2.out.frozen; clear hf hv c0 c1 c2 c3 f0)
                | fail)
              refine wp_goto ?_
              refine ⟨rfl, ⟨_, p + 1, ⟨(k0 : Int), x, y, n'⟩, lb, rfl, ?_⟩, ?_⟩
              · have hn := HN2.out; subst hn
                exact ⟨rfl, rfl, rfl, rfl, rfl, rfl, by rw [HN.out]; rfl, rfl, rfl, by have := HLT.out; omega, hk30, HVS.out, HO.out, HX.out.symm.trans HF.out, rfl, HB2.out.set_ 3 _, HR2.out.far (p := ⟨w.heap.size, 3, none⟩) (by simp) _, HF2.out.setCell (p := ⟨w.heap.size, 3, none⟩) (Or.inr (Nat.le_refl _)) _⟩
              · show 30 - ((p : Int) + 1).toNat < 30 - ((p : Int)).toNat
                omega
          | true =>
            by_cases h19 : k0 = 19
            · have HNo : Hid (¬ (true = true ∧ (115 : UInt8) = 115 ∧ k0 ≠ 19 ∧ (64 :: r).head? = some 64 ∧ isLab (64 :: r).tail = true)) := Lib.hid (by rintro ⟨-, -, h, -⟩; exact h h19)
              have hk19 : ((k0 : Int) != 19) = false := by rw [bne_eq_false_iff_eq]; omega
              clear h19
              cases hn : numP (64 :: r) with
              | none =>
                have HX : Hid (fieldsG numP (fun _ => numP) true k0 (115 :: (fmL k0).drop (p + 1)) ((64 :: r) :: vs.drop (p + 1)) ⟨(k0 : Int), x, y, z⟩ lb = none) := Lib.hid (by rw [fg_num (by decide) HNo.out, hn])
                have HNum : Hid (∀ W, Std W → Calls Tryz.prog 51 #[.string ⟨(64 :: r).toArray⟩] W fun e w' => Fr [] W w' ∧ ∃ n' : Int, e = .returned (.tuple #[.int .i64 n', .bool false]) ∧ True) := Lib.hid (fun W hW => by have h := HNum.out W hW; rw [show (⟨(64 :: r).toArray⟩ : ByteArray).data.toList = 64 :: r from rfl, hn] at h; refine h.mono ?_; rintro e w' ⟨h1, n', h2, h3⟩; exact ⟨h1, n', h2, trivial⟩)
                clear hn
                go_wp2_with (first
                  | (go_at_call 50; refine (HCut.out _).mono ?_; rintro e w1 ⟨rfl, rfl⟩)
                  | (go_at_call 51; refine (HNum.out _ (HStd.out.fr Hf.out)).mono ?_; rintro e w2 ⟨hf, n', rfl, hv⟩; have HN2 := Lib.hid hv; have HB2 := Lib.hid (Hb.out.fr hf (by simp)); have HR2 := Lib.hid (Hr.out.fr hf (by simp)); have HF2 := Lib.hid (Hf.out.trans hf); have b0 := hf.cell_some c0 (by simp); have b1 := hf.cell_some c1 (by simp); have b2 := hf.cell_some c2 (by simp); have b3 := hf.cell_some c3 (by simp); have g0 := HB2.out.frozen; clear hf hv c0 c1 c2 c3 f0)
                  | fail)
                unfold Exit.jump
                exact bodyPost_ret (v := .tuple #[.agg #[.int .i64 0, .int .i64 0, .int .i64 0, .int .i64 0], .string ⟨#[]⟩, .bool false]) (res24 rfl rfl rfl (Blk.set4 ((HB2.out.set_ 3 _)) _ _ _ _) rfl) rfl ⟨by rw [HRV.out, ← HF.out, HX.out]; rfl, Fr.set4 (HF2.out.setCell (p := ⟨w.heap.size, 3, none⟩) (Or.inr (Nat.le_refl _)) _) (Or.inr (Nat.le_refl _)) _ _ _ _⟩
              | some n =>
                have HNum : Hid (∀ W, Std W → Calls Tryz.prog 51 #[.string ⟨(64 :: r).toArray⟩] W fun e w' => Fr [] W w' ∧ ∃ n' : Int, e = .returned (.tuple #[.int .i64 n', .bool true]) ∧ n' = n) := Lib.hid (fun W hW => by have h := HNum.out W hW; rw [show (⟨(64 :: r).toArray⟩ : ByteArray).data.toList = 64 :: r from rfl, hn] at h; refine h.mono ?_; rintro e w' ⟨h1, n', h2, h3⟩; exact ⟨h1, n', h2, h3 n rfl⟩)
                have HX : Hid (fieldsG numP (fun _ => numP) true k0 (115 :: (fmL k0).drop (p + 1)) ((64 :: r) :: vs.drop (p + 1)) ⟨(k0 : Int), x, y, z⟩ lb = fieldsG numP (fun _ => numP) true k0 ((fmL k0).drop (p + 1)) (vs.drop (p + 1)) ⟨(k0 : Int), x, y, n⟩ lb) := Lib.hid (by rw [fg_num (by decide) HNo.out, hn])
                clear hn
                go_wp2_with (first
                  | (go_at_call 50; refine (HCut.out _).mono ?_; rintro e w1 ⟨rfl, rfl⟩)
                  | (go_at_call 51; refine (HNum.out _ (HStd.out.fr Hf.out)).mono ?_; rintro e w2 ⟨hf, n', rfl, hv⟩; have HN2 := Lib.hid hv; have HB2 := Lib.hid (Hb.out.fr hf (by simp)); have HR2 := Lib.hid (Hr.out.fr hf (by simp)); have HF2 := Lib.hid (Hf.out.trans hf); have b0 := hf.cell_some c0 (by simp); have b1 := hf.cell_some c1 (by simp); have b2 := hf.cell_some c2 (by simp); have b3 := hf.cell_some c3 (by simp); have g0 := HB2.out.frozen; clear hf hv c0 c1 c2 c3 f0)
                  | fail)
                refine wp_goto ?_
                refine ⟨rfl, ⟨_, p + 1, ⟨(k0 : Int), x, y, n'⟩, lb, rfl, ?_⟩, ?_⟩
                · have hn := HN2.out; subst hn
                  exact ⟨rfl, rfl, rfl, rfl, rfl, rfl, by rw [HN.out]; rfl, rfl, rfl, by have := HLT.out; omega, hk30, HVS.out, HO.out, HX.out.symm.trans HF.out, rfl, HB2.out.set_ 3 _, HR2.out.far (p := ⟨w.heap.size, 3, none⟩) (by simp) _, HF2.out.setCell (p := ⟨w.heap.size, 3, none⟩) (Or.inr (Nat.le_refl _)) _⟩
                · show 30 - ((p : Int) + 1).toNat < 30 - ((p : Int)).toNat
                  omega
            · have hk19 : ((k0 : Int) != 19) = true := by rw [bne_iff_ne]; omega
              have H19 := Lib.hid h19
              clear h19
              have HLab := Lib.hid (fun W => label_any ⟨r.toArray⟩ (by show r.length ≤ _; have := HVL.out; rw [List.length_cons] at this; omega) W)
              cases hl : isLab r with
              | false =>
                have HNo : Hid (¬ (true = true ∧ (115 : UInt8) = 115 ∧ k0 ≠ 19 ∧ (64 :: r).head? = some 64 ∧ isLab (64 :: r).tail = true)) := Lib.hid (by rintro ⟨-, -, -, -, h⟩; rw [show (64 :: r).tail = r from rfl, hl] at h; cases h)
                have HLab : Hid (∀ W, Calls Tryz.prog 22 #[.string ⟨r.toArray⟩] W fun e w' => e = .returned (.bool false) ∧ Fr [] W w') := Lib.hid (fun W => by have h := HLab.out W; rw [show (⟨r.toArray⟩ : ByteArray).data.toList = r from rfl, hl] at h; exact h)
                clear hl
                cases hn : numP (64 :: r) with
                | none =>
                  have HX : Hid (fieldsG numP (fun _ => numP) true k0 (115 :: (fmL k0).drop (p + 1)) ((64 :: r) :: vs.drop (p + 1)) ⟨(k0 : Int), x, y, z⟩ lb = none) := Lib.hid (by rw [fg_num (by decide) HNo.out, hn])
                  have HNum : Hid (∀ W, Std W → Calls Tryz.prog 51 #[.string ⟨(64 :: r).toArray⟩] W fun e w' => Fr [] W w' ∧ ∃ n' : Int, e = .returned (.tuple #[.int .i64 n', .bool false]) ∧ True) := Lib.hid (fun W hW => by have h := HNum.out W hW; rw [show (⟨(64 :: r).toArray⟩ : ByteArray).data.toList = 64 :: r from rfl, hn] at h; refine h.mono ?_; rintro e w' ⟨h1, n', h2, h3⟩; exact ⟨h1, n', h2, trivial⟩)
                  clear hn
                  go_wp2_with (first
                    | (go_at_call 50; refine (HCut.out _).mono ?_; rintro e w1 ⟨rfl, rfl⟩)
                    | (go_at_call 22; refine (HLab.out _).mono ?_; rintro e w3 ⟨rfl, hf⟩; have HB3 := Lib.hid (Hb.out.fr hf (by simp)); have HR3 := Lib.hid (Hr.out.fr hf (by simp)); have HF3 := Lib.hid (Hf.out.trans hf); have d0 := hf.cell_some c0 (by simp); have d1 := hf.cell_some c1 (by simp); have d2 := hf.cell_some c2 (by simp); have d3 := hf.cell_some c3 (by simp); have g3 := HB3.out.frozen; clear hf c0 c1 c2 c3 f0)
                    | (go_at_call 51; refine (HNum.out _ (HStd.out.fr HF3.out)).mono ?_; rintro e w2 ⟨hf, n', rfl, hv⟩; have HN2 := Lib.hid hv; have HB2 := Lib.hid (HB3.out.fr hf (by simp)); have HR2 := Lib.hid (HR3.out.fr hf (by simp)); have HF2 := Lib.hid (HF3.out.trans hf); have b0 := hf.cell_some d0 (by simp); have b1 := hf.cell_some d1 (by simp); have b2 := hf.cell_some d2 (by simp); have b3 := hf.cell_some d3 (by simp); have g0 := HB2.out.frozen; clear hf hv d0 d1 d2 d3 g3)
                    | fail)
                  unfold Exit.jump
                  exact bodyPost_ret (v := .tuple #[.agg #[.int .i64 0, .int .i64 0, .int .i64 0, .int .i64 0], .string ⟨#[]⟩, .bool false]) (res24 rfl rfl rfl (Blk.set4 ((HB2.out.set_ 3 _)) _ _ _ _) rfl) rfl ⟨by rw [HRV.out, ← HF.out, HX.out]; rfl, Fr.set4 (HF2.out.setCell (p := ⟨w.heap.size, 3, none⟩) (Or.inr (Nat.le_refl _)) _) (Or.inr (Nat.le_refl _)) _ _ _ _⟩
                | some n =>
                  have HNum : Hid (∀ W, Std W → Calls Tryz.prog 51 #[.string ⟨(64 :: r).toArray⟩] W fun e w' => Fr [] W w' ∧ ∃ n' : Int, e = .returned (.tuple #[.int .i64 n', .bool true]) ∧ n' = n) := Lib.hid (fun W hW => by have h := HNum.out W hW; rw [show (⟨(64 :: r).toArray⟩ : ByteArray).data.toList = 64 :: r from rfl, hn] at h; refine h.mono ?_; rintro e w' ⟨h1, n', h2, h3⟩; exact ⟨h1, n', h2, h3 n rfl⟩)
                  have HX : Hid (fieldsG numP (fun _ => numP) true k0 (115 :: (fmL k0).drop (p + 1)) ((64 :: r) :: vs.drop (p + 1)) ⟨(k0 : Int), x, y, z⟩ lb = fieldsG numP (fun _ => numP) true k0 ((fmL k0).drop (p + 1)) (vs.drop (p + 1)) ⟨(k0 : Int), x, y, n⟩ lb) := Lib.hid (by rw [fg_num (by decide) HNo.out, hn])
                  clear hn
                  go_wp2_with (first
                    | (go_at_call 50; refine (HCut.out _).mono ?_; rintro e w1 ⟨rfl, rfl⟩)
                    | (go_at_call 22; refine (HLab.out _).mono ?_; rintro e w3 ⟨rfl, hf⟩; have HB3 := Lib.hid (Hb.out.fr hf (by simp)); have HR3 := Lib.hid (Hr.out.fr hf (by simp)); have HF3 := Lib.hid (Hf.out.trans hf); have d0 := hf.cell_some c0 (by simp); have d1 := hf.cell_some c1 (by simp); have d2 := hf.cell_some c2 (by simp); have d3 := hf.cell_some c3 (by simp); have g3 := HB3.out.frozen; clear hf c0 c1 c2 c3 f0)
                    | (go_at_call 51; refine (HNum.out _ (HStd.out.fr HF3.out)).mono ?_; rintro e w2 ⟨hf, n', rfl, hv⟩; have HN2 := Lib.hid hv; have HB2 := Lib.hid (HB3.out.fr hf (by simp)); have HR2 := Lib.hid (HR3.out.fr hf (by simp)); have HF2 := Lib.hid (HF3.out.trans hf); have b0 := hf.cell_some d0 (by simp); have b1 := hf.cell_some d1 (by simp); have b2 := hf.cell_some d2 (by simp); have b3 := hf.cell_some d3 (by simp); have g0 := HB2.out.frozen; clear hf hv d0 d1 d2 d3 g3)
                    | fail)
                  refine wp_goto ?_
                  refine ⟨rfl, ⟨_, p + 1, ⟨(k0 : Int), x, y, n'⟩, lb, rfl, ?_⟩, ?_⟩
                  · have hn := HN2.out; subst hn
                    exact ⟨rfl, rfl, rfl, rfl, rfl, rfl, by rw [HN.out]; rfl, rfl, rfl, by have := HLT.out; omega, hk30, HVS.out, HO.out, HX.out.symm.trans HF.out, rfl, HB2.out.set_ 3 _, HR2.out.far (p := ⟨w.heap.size, 3, none⟩) (by simp) _, HF2.out.setCell (p := ⟨w.heap.size, 3, none⟩) (Or.inr (Nat.le_refl _)) _⟩
                  · show 30 - ((p : Int) + 1).toNat < 30 - ((p : Int)).toNat
                    omega
              | true =>
                have HX : Hid (fieldsG numP (fun _ => numP) true k0 (115 :: (fmL k0).drop (p + 1)) ((64 :: r) :: vs.drop (p + 1)) ⟨(k0 : Int), x, y, z⟩ lb = fieldsG numP (fun _ => numP) true k0 ((fmL k0).drop (p + 1)) (vs.drop (p + 1)) ⟨(k0 : Int), x, y, z⟩ r) := Lib.hid (fg_lab rfl H19.out hl)
                have HLab : Hid (∀ W, Calls Tryz.prog 22 #[.string ⟨r.toArray⟩] W fun e w' => e = .returned (.bool true) ∧ Fr [] W w') := Lib.hid (fun W => by have h := HLab.out W; rw [show (⟨r.toArray⟩ : ByteArray).data.toList = r from rfl, hl] at h; exact h)
                clear hl
                go_wp2_with (first
                  | (go_at_call 50; refine (HCut.out _).mono ?_; rintro e w1 ⟨rfl, rfl⟩)
                  | (go_at_call 22; refine (HLab.out _).mono ?_; rintro e w3 ⟨rfl, hf⟩; have HB3 := Lib.hid (Hb.out.fr hf (by simp)); have HR3 := Lib.hid (Hr.out.fr hf (by simp)); have HF3 := Lib.hid (Hf.out.trans hf); have d0 := hf.cell_some c0 (by simp); have d1 := hf.cell_some c1 (by simp); have d2 := hf.cell_some c2 (by simp); have d3 := hf.cell_some c3 (by simp); have g3 := HB3.out.frozen; clear hf c0 c1 c2 c3 f0)
                  | fail)
                refine wp_goto ?_
                refine ⟨rfl, ⟨_, p + 1, ⟨(k0 : Int), x, y, z⟩, r, rfl, ?_⟩, ?_⟩
                · skip
                  exact ⟨rfl, rfl, rfl, rfl, rfl, rfl, by rw [HN.out]; rfl, rfl, rfl, by have := HLT.out; omega, hk30, HVS.out, HO.out, HX.out.symm.trans HF.out, rfl, HB3.out, HR3.out, HF3.out⟩
                · show 30 - ((p : Int) + 1).toNat < 30 - ((p : Int)).toNat
                  omega
        · have hr : ∀ r, v ≠ 64 :: r := fun r e => hr ⟨r, e⟩
          have hcut : ∀ W, Calls Tryz.prog 50 #[.string ⟨v.toArray⟩, .string ⟨#[64]⟩] W fun e w' => e = .returned (.tuple #[.string ⟨v.toArray⟩, .bool false]) ∧ w' = W := fun W => by
            have h := HCut2.out W
            rw [(pre_no hr).1, (pre_no hr).2] at h
            exact h
          have HCut := Lib.hid hcut
          clear hcut HCut1 HCut2
          have HNo : Hid (¬ (lab = true ∧ (115 : UInt8) = 115 ∧ k0 ≠ 19 ∧ v.head? = some 64 ∧ isLab v.tail = true)) := Lib.hid (by rintro ⟨-, -, -, h, -⟩; cases v with | nil => cases h | cons b q => exact hr q (by simp at h; rw [h]))
          clear hr
          cases hn : numP (v) with
          | none =>
            have HX : Hid (fieldsG numP (fun _ => numP) lab k0 (115 :: (fmL k0).drop (p + 1)) ((v) :: vs.drop (p + 1)) ⟨(k0 : Int), x, y, z⟩ lb = none) := Lib.hid (by rw [fg_num (by decide) HNo.out, hn])
            have HNum : Hid (∀ W, Std W → Calls Tryz.prog 51 #[.string ⟨(v).toArray⟩] W fun e w' => Fr [] W w' ∧ ∃ n' : Int, e = .returned (.tuple #[.int .i64 n', .bool false]) ∧ True) := Lib.hid (fun W hW => by have h := HNum.out W hW; rw [show (⟨(v).toArray⟩ : ByteArray).data.toList = v from rfl, hn] at h; refine h.mono ?_; rintro e w' ⟨h1, n', h2, h3⟩; exact ⟨h1, n', h2, trivial⟩)
            clear hn
            go_wp2_with (first
              | (go_at_call 50; refine (HCut.out _).mono ?_; rintro e w1 ⟨rfl, rfl⟩)
              | (go_at_call 51; refine (HNum.out _ (HStd.out.fr Hf.out)).mono ?_; rintro e w2 ⟨hf, n', rfl, hv⟩; have HN2 := Lib.hid hv; have HB2 := Lib.hid (Hb.out.fr hf (by simp)); have HR2 := Lib.hid (Hr.out.fr hf (by simp)); have HF2 := Lib.hid (Hf.out.trans hf); have b0 := hf.cell_some c0 (by simp); have b1 := hf.cell_some c1 (by simp); have b2 := hf.cell_some c2 (by simp); have b3 := hf.cell_some c3 (by simp); have g0 := HB2.out.frozen; clear hf hv c0 c1 c2 c3 f0)
              | fail)
            unfold Exit.jump
            exact bodyPost_ret (v := .tuple #[.agg #[.int .i64 0, .int .i64 0, .int .i64 0, .int .i64 0], .string ⟨#[]⟩, .bool false]) (res24 rfl rfl rfl (Blk.set4 ((HB2.out.set_ 3 _)) _ _ _ _) rfl) rfl ⟨by rw [HRV.out, ← HF.out, HX.out]; rfl, Fr.set4 (HF2.out.setCell (p := ⟨w.heap.size, 3, none⟩) (Or.inr (Nat.le_refl _)) _) (Or.inr (Nat.le_refl _)) _ _ _ _⟩
          | some n =>
            have HNum : Hid (∀ W, Std W → Calls Tryz.prog 51 #[.string ⟨(v).toArray⟩] W fun e w' => Fr [] W w' ∧ ∃ n' : Int, e = .returned (.tuple #[.int .i64 n', .bool true]) ∧ n' = n) := Lib.hid (fun W hW => by have h := HNum.out W hW; rw [show (⟨(v).toArray⟩ : ByteArray).data.toList = v from rfl, hn] at h; refine h.mono ?_; rintro e w' ⟨h1, n', h2, h3⟩; exact ⟨h1, n', h2, h3 n rfl⟩)
            have HX : Hid (fieldsG numP (fun _ => numP) lab k0 (115 :: (fmL k0).drop (p + 1)) ((v) :: vs.drop (p + 1)) ⟨(k0 : Int), x, y, z⟩ lb = fieldsG numP (fun _ => numP) lab k0 ((fmL k0).drop (p + 1)) (vs.drop (p + 1)) ⟨(k0 : Int), x, y, n⟩ lb) := Lib.hid (by rw [fg_num (by decide) HNo.out, hn])
            clear hn
            go_wp2_with (first
              | (go_at_call 50; refine (HCut.out _).mono ?_; rintro e w1 ⟨rfl, rfl⟩)
              | (go_at_call 51; refine (HNum.out _ (HStd.out.fr Hf.out)).mono ?_; rintro e w2 ⟨hf, n', rfl, hv⟩; have HN2 := Lib.hid hv; have HB2 := Lib.hid (Hb.out.fr hf (by simp)); have HR2 := Lib.hid (Hr.out.fr hf (by simp)); have HF2 := Lib.hid (Hf.out.trans hf); have b0 := hf.cell_some c0 (by simp); have b1 := hf.cell_some c1 (by simp); have b2 := hf.cell_some c2 (by simp); have b3 := hf.cell_some c3 (by simp); have g0 := HB2.out.frozen; clear hf hv c0 c1 c2 c3 f0)
              | fail)
            refine wp_goto ?_
            refine ⟨rfl, ⟨_, p + 1, ⟨(k0 : Int), x, y, n'⟩, lb, rfl, ?_⟩, ?_⟩
            · have hn := HN2.out; subst hn
              exact ⟨rfl, rfl, rfl, rfl, rfl, rfl, by rw [HN.out]; rfl, rfl, rfl, by have := HLT.out; omega, hk30, HVS.out, HO.out, HX.out.symm.trans HF.out, rfl, HB2.out.set_ 3 _, HR2.out.far (p := ⟨w.heap.size, 3, none⟩) (by simp) _, HF2.out.setCell (p := ⟨w.heap.size, 3, none⟩) (Or.inr (Nat.le_refl _)) _⟩
            · show 30 - ((p : Int) + 1).toNat < 30 - ((p : Int)).toNat
              omega
      · by_cases hr : ∃ r, v = 64 :: r
        · obtain ⟨r, rfl⟩ := hr
          have hcut : ∀ W, Calls Tryz.prog 50 #[.string ⟨(64 :: r).toArray⟩, .string ⟨#[64]⟩] W fun e w' => e = .returned (.tuple #[.string ⟨r.toArray⟩, .bool true]) ∧ w' = W := fun W => by
            have h := HCut2.out W
            rw [(pre_yes 64 r).1, (pre_yes 64 r).2] at h
            exact h
          have HCut := Lib.hid hcut
          clear hcut HCut1 HCut2
          have HNo : ∀ lab : Bool, Hid (¬ (lab = true ∧ (117 : UInt8) = 115 ∧ k0 ≠ 19 ∧ (64 :: r).head? = some 64 ∧ isLab (64 :: r).tail = true)) := fun _ => Lib.hid (by rintro ⟨-, h, -⟩; exact absurd h (by decide))
          cases lab with
          | false =>
            have HNo := HNo false
            cases hn : numP (64 :: r) with
            | none =>
              have HX : Hid (fieldsG numP (fun _ => numP) false k0 (117 :: (fmL k0).drop (p + 1)) ((64 :: r) :: vs.drop (p + 1)) ⟨(k0 : Int), x, y, z⟩ lb = none) := Lib.hid (by rw [fg_num (by decide) HNo.out, hn])
              have HNum : Hid (∀ W, Std W → Calls Tryz.prog 51 #[.string ⟨(64 :: r).toArray⟩] W fun e w' => Fr [] W w' ∧ ∃ n' : Int, e = .returned (.tuple #[.int .i64 n', .bool false]) ∧ True) := Lib.hid (fun W hW => by have h := HNum.out W hW; rw [show (⟨(64 :: r).toArray⟩ : ByteArray).data.toList = 64 :: r from rfl, hn] at h; refine h.mono ?_; rintro e w' ⟨h1, n', h2, h3⟩; exact ⟨h1, n', h2, trivial⟩)
              clear hn
              go_wp2_with (first
                | (go_at_call 50; refine (HCut.out _).mono ?_; rintro e w1 ⟨rfl, rfl⟩)
                | (go_at_call 51; refine (HNum.out _ (HStd.out.fr Hf.out)).mono ?_; rintro e w2 ⟨hf, n', rfl, hv⟩; have HN2 := Lib.hid hv; have HB2 := Lib.hid (Hb.out.fr hf (by simp)); have HR2 := Lib.hid (Hr.out.fr hf (by simp)); have HF2 := Lib.hid (Hf.out.trans hf); have b0 := hf.cell_some c0 (by simp); have b1 := hf.cell_some c1 (by simp); have b2 := hf.cell_some c2 (by simp); have b3 := hf.cell_some c3 (by simp); have g0 := HB2.out.frozen; clear hf hv c0 c1 c2 c3 f0)
                | fail)
              unfold Exit.jump
              exact bodyPost_ret (v := .tuple #[.agg #[.int .i64 0, .int .i64 0, .int .i64 0, .int .i64 0], .string ⟨#[]⟩, .bool false]) (res24 rfl rfl rfl (Blk.set4 ((HB2.out.set_ 3 _)) _ _ _ _) rfl) rfl ⟨by rw [HRV.out, ← HF.out, HX.out]; rfl, Fr.set4 (HF2.out.setCell (p := ⟨w.heap.size, 3, none⟩) (Or.inr (Nat.le_refl _)) _) (Or.inr (Nat.le_refl _)) _ _ _ _⟩
            | some n =>
              have HNum : Hid (∀ W, Std W → Calls Tryz.prog 51 #[.string ⟨(64 :: r).toArray⟩] W fun e w' => Fr [] W w' ∧ ∃ n' : Int, e = .returned (.tuple #[.int .i64 n', .bool true]) ∧ n' = n) := Lib.hid (fun W hW => by have h := HNum.out W hW; rw [show (⟨(64 :: r).toArray⟩ : ByteArray).data.toList = 64 :: r from rfl, hn] at h; refine h.mono ?_; rintro e w' ⟨h1, n', h2, h3⟩; exact ⟨h1, n', h2, h3 n rfl⟩)
              have HX : Hid (fieldsG numP (fun _ => numP) false k0 (117 :: (fmL k0).drop (p + 1)) ((64 :: r) :: vs.drop (p + 1)) ⟨(k0 : Int), x, y, z⟩ lb = fieldsG numP (fun _ => numP) false k0 ((fmL k0).drop (p + 1)) (vs.drop (p + 1)) ⟨(k0 : Int), x, y, n⟩ lb) := Lib.hid (by rw [fg_num (by decide) HNo.out, hn])
              clear hn
              go_wp2_with (first
                | (go_at_call 50; refine (HCut.out _).mono ?_; rintro e w1 ⟨rfl, rfl⟩)
                | (go_at_call 51; refine (HNum.out _ (HStd.out.fr Hf.out)).mono ?_; rintro e w2 ⟨hf, n', rfl, hv⟩; have HN2 := Lib.hid hv; have HB2 := Lib.hid (Hb.out.fr hf (by simp)); have HR2 := Lib.hid (Hr.out.fr hf (by simp)); have HF2 := Lib.hid (Hf.out.trans hf); have b0 := hf.cell_some c0 (by simp); have b1 := hf.cell_some c1 (by simp); have b2 := hf.cell_some c2 (by simp); have b3 := hf.cell_some c3 (by simp); have g0 := HB2.out.frozen; clear hf hv c0 c1 c2 c3 f0)
                | fail)
              refine wp_goto ?_
              refine ⟨rfl, ⟨_, p + 1, ⟨(k0 : Int), x, y, n'⟩, lb, rfl, ?_⟩, ?_⟩
              · have hn := HN2.out; subst hn
                exact ⟨rfl, rfl, rfl, rfl, rfl, rfl, by rw [HN.out]; rfl, rfl, rfl, by have := HLT.out; omega, hk30, HVS.out, HO.out, HX.out.symm.trans HF.out, rfl, HB2.out.set_ 3 _, HR2.out.far (p := ⟨w.heap.size, 3, none⟩) (by simp) _, HF2.out.setCell (p := ⟨w.heap.size, 3, none⟩) (Or.inr (Nat.le_refl _)) _⟩
              · show 30 - ((p : Int) + 1).toNat < 30 - ((p : Int)).toNat
                omega
          | true =>
            have HNo := HNo true
            cases hn : numP (64 :: r) with
            | none =>
              have HX : Hid (fieldsG numP (fun _ => numP) true k0 (117 :: (fmL k0).drop (p + 1)) ((64 :: r) :: vs.drop (p + 1)) ⟨(k0 : Int), x, y, z⟩ lb = none) := Lib.hid (by rw [fg_num (by decide) HNo.out, hn])
              have HNum : Hid (∀ W, Std W → Calls Tryz.prog 51 #[.string ⟨(64 :: r).toArray⟩] W fun e w' => Fr [] W w' ∧ ∃ n' : Int, e = .returned (.tuple #[.int .i64 n', .bool false]) ∧ True) := Lib.hid (fun W hW => by have h := HNum.out W hW; rw [show (⟨(64 :: r).toArray⟩ : ByteArray).data.toList = 64 :: r from rfl, hn] at h; refine h.mono ?_; rintro e w' ⟨h1, n', h2, h3⟩; exact ⟨h1, n', h2, trivial⟩)
              clear hn
              go_wp2_with (first
                | (go_at_call 50; refine (HCut.out _).mono ?_; rintro e w1 ⟨rfl, rfl⟩)
                | (go_at_call 51; refine (HNum.out _ (HStd.out.fr Hf.out)).mono ?_; rintro e w2 ⟨hf, n', rfl, hv⟩; have HN2 := Lib.hid hv; have HB2 := Lib.hid (Hb.out.fr hf (by simp)); have HR2 := Lib.hid (Hr.out.fr hf (by simp)); have HF2 := Lib.hid (Hf.out.trans hf); have b0 := hf.cell_some c0 (by simp); have b1 := hf.cell_some c1 (by simp); have b2 := hf.cell_some c2 (by simp); have b3 := hf.cell_some c3 (by simp); have g0 := HB2.out.frozen; clear hf hv c0 c1 c2 c3 f0)
                | fail)
              unfold Exit.jump
              exact bodyPost_ret (v := .tuple #[.agg #[.int .i64 0, .int .i64 0, .int .i64 0, .int .i64 0], .string ⟨#[]⟩, .bool false]) (res24 rfl rfl rfl (Blk.set4 ((HB2.out.set_ 3 _)) _ _ _ _) rfl) rfl ⟨by rw [HRV.out, ← HF.out, HX.out]; rfl, Fr.set4 (HF2.out.setCell (p := ⟨w.heap.size, 3, none⟩) (Or.inr (Nat.le_refl _)) _) (Or.inr (Nat.le_refl _)) _ _ _ _⟩
            | some n =>
              have HNum : Hid (∀ W, Std W → Calls Tryz.prog 51 #[.string ⟨(64 :: r).toArray⟩] W fun e w' => Fr [] W w' ∧ ∃ n' : Int, e = .returned (.tuple #[.int .i64 n', .bool true]) ∧ n' = n) := Lib.hid (fun W hW => by have h := HNum.out W hW; rw [show (⟨(64 :: r).toArray⟩ : ByteArray).data.toList = 64 :: r from rfl, hn] at h; refine h.mono ?_; rintro e w' ⟨h1, n', h2, h3⟩; exact ⟨h1, n', h2, h3 n rfl⟩)
              have HX : Hid (fieldsG numP (fun _ => numP) true k0 (117 :: (fmL k0).drop (p + 1)) ((64 :: r) :: vs.drop (p + 1)) ⟨(k0 : Int), x, y, z⟩ lb = fieldsG numP (fun _ => numP) true k0 ((fmL k0).drop (p + 1)) (vs.drop (p + 1)) ⟨(k0 : Int), x, y, n⟩ lb) := Lib.hid (by rw [fg_num (by decide) HNo.out, hn])
              clear hn
              go_wp2_with (first
                | (go_at_call 50; refine (HCut.out _).mono ?_; rintro e w1 ⟨rfl, rfl⟩)
                | (go_at_call 51; refine (HNum.out _ (HStd.out.fr Hf.out)).mono ?_; rintro e w2 ⟨hf, n', rfl, hv⟩; have HN2 := Lib.hid hv; have HB2 := Lib.hid (Hb.out.fr hf (by simp)); have HR2 := Lib.hid (Hr.out.fr hf (by simp)); have HF2 := Lib.hid (Hf.out.trans hf); have b0 := hf.cell_some c0 (by simp); have b1 := hf.cell_some c1 (by simp); have b2 := hf.cell_some c2 (by simp); have b3 := hf.cell_some c3 (by simp); have g0 := HB2.out.frozen; clear hf hv c0 c1 c2 c3 f0)
                | fail)
              refine wp_goto ?_
              refine ⟨rfl, ⟨_, p + 1, ⟨(k0 : Int), x, y, n'⟩, lb, rfl, ?_⟩, ?_⟩
              · have hn := HN2.out; subst hn
                exact ⟨rfl, rfl, rfl, rfl, rfl, rfl, by rw [HN.out]; rfl, rfl, rfl, by have := HLT.out; omega, hk30, HVS.out, HO.out, HX.out.symm.trans HF.out, rfl, HB2.out.set_ 3 _, HR2.out.far (p := ⟨w.heap.size, 3, none⟩) (by simp) _, HF2.out.setCell (p := ⟨w.heap.size, 3, none⟩) (Or.inr (Nat.le_refl _)) _⟩
              · show 30 - ((p : Int) + 1).toNat < 30 - ((p : Int)).toNat
                omega
        · have hr : ∀ r, v ≠ 64 :: r := fun r e => hr ⟨r, e⟩
          have hcut : ∀ W, Calls Tryz.prog 50 #[.string ⟨v.toArray⟩, .string ⟨#[64]⟩] W fun e w' => e = .returned (.tuple #[.string ⟨v.toArray⟩, .bool false]) ∧ w' = W := fun W => by
            have h := HCut2.out W
            rw [(pre_no hr).1, (pre_no hr).2] at h
            exact h
          have HCut := Lib.hid hcut
          clear hcut HCut1 HCut2
          have HNo : Hid (¬ (lab = true ∧ (117 : UInt8) = 115 ∧ k0 ≠ 19 ∧ v.head? = some 64 ∧ isLab v.tail = true)) := Lib.hid (by rintro ⟨-, -, -, h, -⟩; cases v with | nil => cases h | cons b q => exact hr q (by simp at h; rw [h]))
          clear hr
          cases hn : numP (v) with
          | none =>
            have HX : Hid (fieldsG numP (fun _ => numP) lab k0 (117 :: (fmL k0).drop (p + 1)) ((v) :: vs.drop (p + 1)) ⟨(k0 : Int), x, y, z⟩ lb = none) := Lib.hid (by rw [fg_num (by decide) HNo.out, hn])
            have HNum : Hid (∀ W, Std W → Calls Tryz.prog 51 #[.string ⟨(v).toArray⟩] W fun e w' => Fr [] W w' ∧ ∃ n' : Int, e = .returned (.tuple #[.int .i64 n', .bool false]) ∧ True) := Lib.hid (fun W hW => by have h := HNum.out W hW; rw [show (⟨(v).toArray⟩ : ByteArray).data.toList = v from rfl, hn] at h; refine h.mono ?_; rintro e w' ⟨h1, n', h2, h3⟩; exact ⟨h1, n', h2, trivial⟩)
            clear hn
            go_wp2_with (first
              | (go_at_call 50; refine (HCut.out _).mono ?_; rintro e w1 ⟨rfl, rfl⟩)
              | (go_at_call 51; refine (HNum.out _ (HStd.out.fr Hf.out)).mono ?_; rintro e w2 ⟨hf, n', rfl, hv⟩; have HN2 := Lib.hid hv; have HB2 := Lib.hid (Hb.out.fr hf (by simp)); have HR2 := Lib.hid (Hr.out.fr hf (by simp)); have HF2 := Lib.hid (Hf.out.trans hf); have b0 := hf.cell_some c0 (by simp); have b1 := hf.cell_some c1 (by simp); have b2 := hf.cell_some c2 (by simp); have b3 := hf.cell_some c3 (by simp); have g0 := HB2.out.frozen; clear hf hv c0 c1 c2 c3 f0)
              | fail)
            unfold Exit.jump
            exact bodyPost_ret (v := .tuple #[.agg #[.int .i64 0, .int .i64 0, .int .i64 0, .int .i64 0], .string ⟨#[]⟩, .bool false]) (res24 rfl rfl rfl (Blk.set4 ((HB2.out.set_ 3 _)) _ _ _ _) rfl) rfl ⟨by rw [HRV.out, ← HF.out, HX.out]; rfl, Fr.set4 (HF2.out.setCell (p := ⟨w.heap.size, 3, none⟩) (Or.inr (Nat.le_refl _)) _) (Or.inr (Nat.le_refl _)) _ _ _ _⟩
          | some n =>
            have HNum : Hid (∀ W, Std W → Calls Tryz.prog 51 #[.string ⟨(v).toArray⟩] W fun e w' => Fr [] W w' ∧ ∃ n' : Int, e = .returned (.tuple #[.int .i64 n', .bool true]) ∧ n' = n) := Lib.hid (fun W hW => by have h := HNum.out W hW; rw [show (⟨(v).toArray⟩ : ByteArray).data.toList = v from rfl, hn] at h; refine h.mono ?_; rintro e w' ⟨h1, n', h2, h3⟩; exact ⟨h1, n', h2, h3 n rfl⟩)
            have HX : Hid (fieldsG numP (fun _ => numP) lab k0 (117 :: (fmL k0).drop (p + 1)) ((v) :: vs.drop (p + 1)) ⟨(k0 : Int), x, y, z⟩ lb = fieldsG numP (fun _ => numP) lab k0 ((fmL k0).drop (p + 1)) (vs.drop (p + 1)) ⟨(k0 : Int), x, y, n⟩ lb) := Lib.hid (by rw [fg_num (by decide) HNo.out, hn])
            clear hn
            go_wp2_with (first
              | (go_at_call 50; refine (HCut.out _).mono ?_; rintro e w1 ⟨rfl, rfl⟩)
              | (go_at_call 51; refine (HNum.out _ (HStd.out.fr Hf.out)).mono ?_; rintro e w2 ⟨hf, n', rfl, hv⟩; have HN2 := Lib.hid hv; have HB2 := Lib.hid (Hb.out.fr hf (by simp)); have HR2 := Lib.hid (Hr.out.fr hf (by simp)); have HF2 := Lib.hid (Hf.out.trans hf); have b0 := hf.cell_some c0 (by simp); have b1 := hf.cell_some c1 (by simp); have b2 := hf.cell_some c2 (by simp); have b3 := hf.cell_some c3 (by simp); have g0 := HB2.out.frozen; clear hf hv c0 c1 c2 c3 f0)
              | fail)
            refine wp_goto ?_
            refine ⟨rfl, ⟨_, p + 1, ⟨(k0 : Int), x, y, n'⟩, lb, rfl, ?_⟩, ?_⟩
            · have hn := HN2.out; subst hn
              exact ⟨rfl, rfl, rfl, rfl, rfl, rfl, by rw [HN.out]; rfl, rfl, rfl, by have := HLT.out; omega, hk30, HVS.out, HO.out, HX.out.symm.trans HF.out, rfl, HB2.out.set_ 3 _, HR2.out.far (p := ⟨w.heap.size, 3, none⟩) (by simp) _, HF2.out.setCell (p := ⟨w.heap.size, 3, none⟩) (Or.inr (Nat.le_refl _)) _⟩
            · show 30 - ((p : Int) + 1).toNat < 30 - ((p : Int)).toNat
              omega
    · have hpe : p = (fmL k0).length := by omega
      subst hpe
      rw [List.drop_length] at hF
      have hRV : RV = (⟨k0, x, y, z⟩, lb, okL ⟨k0, x, y, z⟩ k0) := by
        rw [HRV.out, ← hF]
        rfl
      subst hRV
      have HC := Lib.hid (fun W => Check_in ⟨k0, x, y, z⟩ k0 hk30 rfl W)
      rw [okI_eq _ hk30] at HC
      have hq : (((fmL k0).length : Int) == ((fm k0).size : Int)) = true := by rw [hfs]; simp
      clear hF HRV hp hlt hvs ho hfs
      generalize hOK : okL ⟨k0, x, y, z⟩ k0 = OK at *
      have HOK := Lib.hid hOK
      clear hOK
      have hz : ((if OK = true then (0 : Int) else 90) == 0) = OK := by cases OK <;> rfl
      generalize (if OK = true then (0 : Int) else 90) = E at *
      go_upto_region 13 with (fail)
      go_region_law (first
        | (go_simp; go_at_call 26; refine (HC.out _).mono ?_; rintro e w1 ⟨rfl, hf⟩; have hD := (Fr.refl [] W).drew.trans hf; have HB1 := Lib.hid (Hb.out.fr hD (by simp)); have HF1 := Lib.hid (Hf.out.trans hD); have b0 := hD.cell_some c0 (by simp); have b1 := hD.cell_some c1 (by simp); have b2 := hD.cell_some c2 (by simp); have b3 := hD.cell_some c3 (by simp); have f1 := HB1.out.frozen; clear hf hD)
        | fail)
      all_goals
        go_wp2_with fail
        unfold Exit.jump
        exact bodyPost_ret (v := .tuple #[.agg #[.int .i64 k0, .int .i64 x, .int .i64 y, .int .i64 z], .string ⟨lb.toArray⟩, .bool OK]) (res24 rfl rfl rfl (Blk.set4 HB1.out _ _ _ _) rfl) rfl ⟨by rw [HOK.out], Fr.set4 HF1.out (Or.inr (Nat.le_refl _)) _ _ _ _⟩
  case first =>
  intro hp
  have HP := Lib.hid hp
  clear hp
  have HB0 := Lib.hid (Blk.new w 55 #[.int .i64 0, .int .i64 0, .int .i64 0, .int .i64 0])
  have HF0 : Hid (Fr [] w (w.alloc (.cells #[.int .i64 0, .int .i64 0, .int .i64 0, .int .i64 0] 55))) := Lib.hid ((Fr.refl [] w).alloc _)
  have hsz0 : (w.alloc (.cells #[.int .i64 0, .int .i64 0, .int .i64 0, .int .i64 0] 55)).heap.size = w.heap.size + 1 := by simp
  generalize (w.alloc (.cells #[.int .i64 0, .int .i64 0, .int .i64 0, .int .i64 0] 55)) = wA at *
  go_wp2_with (first
    | (go_at_call 18; refine (HSp.out _ (HMw.out _ HF0.out)).mono ?_; rintro e w1 ⟨rfl, rfl⟩; have HB1 := Lib.hid (HB0.out.fr ((Fr.refl [] wA).alloc (.cells (rowB (w0 :: vs)) 9)) (by simp)); have HF1 := Lib.hid (HF0.out.alloc (.cells (rowB (w0 :: vs)) 9)); have HR1 := Lib.hid (Blk.new wA 9 (rowB (w0 :: vs))))
    | (go_at_call 49; refine (HO.out _).mono ?_; rintro e w2 ⟨rfl, hf⟩; have HF2 := Lib.hid (HF1.out.trans hf); have HB2 := Lib.hid (HB1.out.fr hf (by simp)); have HR2 := Lib.hid (HR1.out.fr hf (by simp)); clear hf)
    | fail)
  rw [hsz0] at HR2
  go_loopg [22, 8, 6] 30 (fun gg i f is wr => ∃ n : Nat, n + gg = 30 ∧ i = .int .i64 (n : Int) ∧ f = .string (opF (opU w0 n)) ∧ is = .bool (opU w0 n).isSome ∧ Blk wr w.heap.size 55 #[.int .i64 (opI (opU w0 n)), .int .i64 0, .int .i64 0, .int .i64 0] ∧ Blk wr (w.heap.size + 1) 9 (rowB (w0 :: vs)) ∧ Fr [] w wr)
  case atStart => exact ⟨0, rfl, rfl, rfl, rfl, HB2.out, HR2.out, HF2.out⟩
  case round =>
    obtain ⟨n, hn, rfl, rfl, rfl, hb, hr, hf⟩ := hrel
    have Hn := Lib.hid hn
    have Hb := Lib.hid hb
    have Hr := Lib.hid hr
    have Hf := Lib.hid hf
    by_cases hlt : n < 30
    · have hlt1 : (n : Int) < 30 := by omega
      have hgw := hf.size
      clear hb hr hf hn
      have hin := hi n hlt
      clear hi
      go_upto_region 7 with (fail)
      have Hb6 := Lib.hid (Blk.new wr 111 #[.string (nm n), .string (fm n)])
      have Hb7 := Lib.hid (Hb.out.fr ((Fr.refl [] wr).alloc (.cells #[.string (nm n), .string (fm n)] 111)) (by simp))
      have Hr7 := Lib.hid (Hr.out.fr ((Fr.refl [] wr).alloc (.cells #[.string (nm n), .string (fm n)] 111)) (by simp))
      have Hf7 := Lib.hid (Hf.out.alloc (.cells #[.string (nm n), .string (fm n)] 111))
      have c0 : (wr.alloc (.cells #[.string (nm n), .string (fm n)] 111)).cell? ⟨wr.heap.size, 0, none⟩ = some (.string (nm n)) := Hb6.out.cell 0
      have c1 : (wr.alloc (.cells #[.string (nm n), .string (fm n)] 111)).cell? ⟨wr.heap.size, 1, none⟩ = some (.string (fm n)) := Hb6.out.cell 1
      have d0 : (wr.alloc (.cells #[.string (nm n), .string (fm n)] 111)).cell? ⟨w.heap.size + 1, 0, none⟩ = some (.string ⟨w0.toArray⟩) := Hr7.out.cell 0
      have e0 : (wr.alloc (.cells #[.string (nm n), .string (fm n)] 111)).cell? ⟨w.heap.size, 0, none⟩ = some (.int .i64 (opI (opU w0 n))) := Hb7.out.cell 0
      have f0 := Hb7.out.frozen 0
      have hN1 : (0 : Int) < (N : Int) := by omega
      have hne : w.heap.size ≠ wr.heap.size := by have := Hb.out.lt; omega
      have Hne := Lib.hid hne
      generalize (wr.alloc (.cells #[.string (nm n), .string (fm n)] 111)) = W7 at *
      generalize wr.heap.size = g6 at *
      by_cases hq : nmL n = w0
      · have hz : ((nm n).toList == w0) = true := (HZ.out n).trans (decide_eq_true hq)
        have Hq := Lib.hid hq
        clear hq
        go_quiet (fail)
        go_wp2_with fail
        have hD := (Fr.refl [] W7).drewN nq
        have Hb8 := Lib.hid (Hb7.out.fr hD (by simp))
        have Hr8 := Lib.hid (Hr7.out.fr hD (by simp))
        have Hf8 := Lib.hid (Hf7.out.trans hD)
        have c2 := hD.cell_some c1 (by simp)
        have e2 := hD.cell_some e0 (by simp)
        have f2 := Hb8.out.frozen 0
        clear c0 c1 d0 e0 f0 hD
        generalize W7.drewN nq = W8 at *
        go_region
        all_goals
          go_wp2_with fail
          go_roundg (30 - (n + 1))
          case measure => have := Hn.out; omega
          case rel =>
            have e : opU w0 (n + 1) = some n := if_pos Hq.out
            exact ⟨n + 1, by have := Hn.out; omega, by go_num, by rw [e]; rfl, by rw [e]; rfl, by rw [e]; exact (Hb8.out.set_ 0 _), Hr8.out.far (p := ⟨w.heap.size, 0, none⟩) (by simp) _, (Hf8.out.setCell (p := ⟨w.heap.size, 0, none⟩) (Or.inr (Nat.le_refl _)) _).drew⟩
      · have hz : ((nm n).toList == w0) = false := (HZ.out n).trans (decide_eq_false hq)
        have Hq := Lib.hid hq
        clear hq
        go_quiet (fail)
        go_wp2_with fail
        go_roundg (30 - (n + 1))
        case measure => have := Hn.out; omega
        case rel =>
          have e : opU w0 (n + 1) = opU w0 n := if_neg Hq.out
          have hD := (Fr.refl [] W7).drewN nq
          exact ⟨n + 1, by have := Hn.out; omega, by go_num, by rw [e], by rw [e], by rw [e]; exact Hb7.out.fr hD (by simp), Hr7.out.fr hD (by simp), Hf7.out.trans hD⟩
    · have hn30 : n = 30 := by omega
      subst hn30
      clear hn Hn
      have hN1 : (vs.length : Int) + 1 = (N : Int) := by rw [← HN.out, List.length_cons]; omega
      have c0 : wr.cell? ⟨w.heap.size, 0, none⟩ = some (.int .i64 (opI (opU w0 30))) := hb.cell 0
      have c1 : wr.cell? ⟨w.heap.size, 1, none⟩ = some (.int .i64 0) := hb.cell 1
      have c2 : wr.cell? ⟨w.heap.size, 2, none⟩ = some (.int .i64 0) := hb.cell 2
      have c3 : wr.cell? ⟨w.heap.size, 3, none⟩ = some (.int .i64 0) := hb.cell 3
      have f0 := hb.frozen
      clear hb hr hf
      have HV2 := HV.out
      cases ho : opU w0 30 with
      | none =>
        rw [ho] at Hb HV2 c0
        subst HV2
        go_wp2_with fail
        unfold Exit.jump
        exact bodyPost_ret (v := .tuple #[.agg #[.int .i64 0, .int .i64 0, .int .i64 0, .int .i64 0], .string ⟨#[]⟩, .bool false]) (res24 rfl rfl rfl (Blk.set4 Hb.out _ _ _ _) rfl) rfl ⟨rfl, Fr.set4 Hf.out (Or.inr (Nat.le_refl _)) _ _ _ _⟩
      | some k =>
        obtain ⟨hk30, hnm⟩ := opU_some ho
        obtain rfl : k0 = k := by rw [← hk0, ho]; rfl
        rw [ho] at Hb HV2 c0
        simp only at HV2
        rw [show opF (some k0) = fm k0 from rfl, show (some k0).isSome = true from rfl]
        have hfs : (fm k0).size = (fmL k0).length := rfl
        have hF8 : (fm k0).size ≤ 8 := (fm_small k0 hk30).1
        have hwr : IntKind.i64.wrap (((fm k0).size : Int) + 1) = ((fm k0).size : Int) + 1 := IntWalk.i64_in _ (by omega)
        by_cases hl : vs.length = (fmL k0).length
        · rw [if_pos hl] at HV2
          have hq : ((N : Int) != ((fm k0).size : Int) + 1) = false := by rw [bne_eq_false_iff_eq]; omega
          have HX := Lib.hid hl
          have HY := Lib.hid HV2
          clear hl HV2 hfs hk0
          go_wp2_with fail
          refine wp_label ?_
          rename_i K hK
          refine hK _ _ (HP.out _ _ ?_)
          refine ⟨_, 0, ⟨(k0 : Int), 0, 0, 0⟩, [], rfl, ?_⟩
          exact ⟨rfl, rfl, rfl, rfl, rfl, rfl, by rw [HN.out]; rfl, rfl, rfl, Nat.zero_le _, hk30, HX.out, ho, rfl, rfl, Hb.out, Hr.out, Hf.out⟩
        · rw [if_neg hl] at HV2
          subst HV2
          have hq : ((N : Int) != ((fm k0).size : Int) + 1) = true := by rw [bne_iff_ne]; omega
          clear hl hfs
          go_wp2_with fail
          unfold Exit.jump
          exact bodyPost_ret (v := .tuple #[.agg #[.int .i64 0, .int .i64 0, .int .i64 0, .int .i64 0], .string ⟨#[]⟩, .bool false]) (res24 rfl rfl rfl (Blk.set4 Hb.out _ _ _ _) rfl) rfl ⟨rfl, Fr.set4 Hf.out (Or.inr (Nat.le_refl _)) _ _ _ _⟩
end Go.Proofs.YtbmaecdlkchkeaaGreatDoor

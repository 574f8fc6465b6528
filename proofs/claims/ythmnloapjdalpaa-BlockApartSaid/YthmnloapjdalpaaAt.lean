/- A disk in the program's memory. -/
import Derived.Test.YthmnloapjdalpaaUMap
import Derived.Test.YthmnloapjdalpaaLib2
import Derived.WalkKit
import Derived.WalkSpells
import Derived.WalkLawsBesides
import Derived.Deep.QuietTactic
import Derived.BigQuiet
import Derived.Deep.LoopGhost
import Derived.Deep.DeepMust
import Derived.Deep.RegionHeld3
import Derived.Laws.EntriesVeiled
import Derived.Lib.LazyBuf
namespace Go.Proofs.Ythmnloapjdalpaa
open Go.RowKit
set_option linter.unusedVariables false
set_option linter.unusedSimpArgs false
theorem ret_bool {a b : Bool} (h : a = b) : Ending.returned (.bool a) = .returned (.bool b) := by rw [h]
theorem ret_int {k : IntKind} {a b : Int} (h : a = b) : Ending.returned (.int k a) = .returned (.int k b) := by rw [h]
abbrev ptr (p : Nat) : Value := .pointer (some ⟨p, 0, none⟩)
/-- Blocks of S hold no row of numbers. -/
def NoZ (w : World) (S : List Nat) : Prop := ∀ k, k ∈ S → ∀ cs mk, w.heap[k]? ≠ some (.cells cs 3 mk)
theorem NoZ.nil (w : World) : NoZ w [] := fun k hk => by cases hk
/-- A slice of numbers. -/
def Zs (w : World) (v : Value) (l : List Int) : Prop :=
  ∃ A cap, v = .slice A l.length cap ∧ l.length ≤ cap ∧ cap ≤ maxLen ∧ (A = none → l = []) ∧
    (l = [] ∨ ∃ q o cs mk, A = some ⟨q, o, none⟩ ∧ w.heap[q]? = some (.cells cs 3 mk) ∧ ∀ j x, l[j]? = some x → cs[o + j]? = some (.int .i64 x))
theorem Zs.fr {w w' : World} {v : Value} {l : List Int} {S : List Nat} (h : Zs w v l) (hf : Fr S w w') (hz : NoZ w S) : Zs w' v l := by
  obtain ⟨A, cap, h1, h2, h3, h4, h5⟩ := h
  refine ⟨A, cap, h1, h2, h3, h4, ?_⟩
  rcases h5 with h5 | ⟨q, o, cs, mk, h5, h6, h7⟩
  · exact .inl h5
  · exact .inr ⟨q, o, cs, mk, h5, (hf.block q (Array.getElem?_eq_some_iff.1 h6).1 (fun hq => hz q hq cs mk h6)).trans h6, h7⟩
theorem Zs.nil (w : World) : Zs w (.slice none 0 0) [] := ⟨none, 0, rfl, Nat.le_refl _, Nat.zero_le _, fun _ => rfl, .inl rfl⟩
theorem Zs.cell {w : World} {A : Option Addr} {n cap : Nat} {l : List Int} (h : Zs w (.slice A n cap) l) {j : Nat} {x : Int} (hj : l[j]? = some x) : ∃ q o, A = some ⟨q, o, none⟩ ∧ q < w.heap.size ∧ w.cell? ⟨q, o + j, none⟩ = some (.int .i64 x) := by
  obtain ⟨A', cap', h1, h2, h3, h4, h5⟩ := h
  injection h1 with hA _ _
  rcases h5 with rfl | ⟨q, o, cs, mk, h5, h6, h7⟩
  · simp at hj
  · refine ⟨q, o, hA.trans h5, (Array.getElem?_eq_some_iff.1 h6).1, ?_⟩
    simp [World.cell?, h6, h7 j x hj]
theorem Zs.len {w : World} {A : Option Addr} {n cap : Nat} {l : List Int} (h : Zs w (.slice A n cap) l) : n = l.length ∧ n ≤ cap ∧ cap ≤ maxLen := by
  obtain ⟨A', cap', h1, h2, h3, h4, h5⟩ := h
  injection h1 with _ h6 h7
  subst h6; subst h7
  exact ⟨rfl, h2, h3⟩
/-- A slice of numbers, wherever it lies. -/
def Zw (w : World) (v : Value) (l : List Int) : Prop :=
  ∃ A cap, v = .slice A l.length cap ∧ l.length ≤ cap ∧ cap ≤ maxLen ∧ (A = none → l = []) ∧
    ∀ (j : Nat) (x : Int), l[j]? = some x → ∃ q o, A = some ⟨q, o, none⟩ ∧ q < w.heap.size ∧ w.cell? ⟨q, o + j, none⟩ = some (.int .i64 x)
theorem Zw.fr {w w' : World} {v : Value} {l : List Int} (h : Zw w v l) (hf : Fr [] w w') (_ : NoZ w []) : Zw w' v l := by
  obtain ⟨A, cap, h1, h2, h3, h4, h5⟩ := h
  refine ⟨A, cap, h1, h2, h3, h4, fun j x hj => ?_⟩
  obtain ⟨q, o, e1, e2, e3⟩ := h5 j x hj
  have := hf.size
  exact ⟨q, o, e1, by omega, hf.cell_some e3 (by simp)⟩
theorem Zw.cell {w : World} {A : Option Addr} {n cap : Nat} {l : List Int} (h : Zw w (.slice A n cap) l) {j : Nat} {x : Int} (hj : l[j]? = some x) : ∃ q o, A = some ⟨q, o, none⟩ ∧ q < w.heap.size ∧ w.cell? ⟨q, o + j, none⟩ = some (.int .i64 x) := by
  obtain ⟨A', cap', h1, h2, h3, h4, h5⟩ := h
  injection h1 with hA _ _
  rw [hA]
  exact h5 j x hj
theorem Zw.len {w : World} {A : Option Addr} {n cap : Nat} {l : List Int} (h : Zw w (.slice A n cap) l) : n = l.length ∧ n ≤ cap ∧ cap ≤ maxLen := by
  obtain ⟨A', cap', h1, h2, h3, h4, h5⟩ := h
  injection h1 with _ h6 h7
  subst h6; subst h7
  exact ⟨rfl, h2, h3⟩
theorem Zs.zw {w : World} {v : Value} {l : List Int} (h : Zs w v l) : Zw w v l := by
  obtain ⟨A, cap, rfl, h2, h3, h4, h5⟩ := h
  exact ⟨A, cap, rfl, h2, h3, h4, fun j x hj => Zs.cell ⟨A, cap, rfl, h2, h3, h4, h5⟩ hj⟩
theorem Zw.nil (w : World) : Zw w (.slice none 0 0) [] := (Zs.nil w).zw
/-- A disk: its struct in block p, its safe bytes in g, what is unsafe in m. -/
structure DiskAt (w : World) (p g m : Nat) (d : Dk) : Prop where
  ok : d.Ok
  hd : ∃ cap cv, Blk w p 110 #[.slice (some ⟨g, 0, none⟩) (128 * d.n) cap, .map (some m), .int .i64 d.armed, cv, .bool d.dead] ∧ 128 * d.n ≤ cap ∧ cap ≤ maxLen ∧ Zs w cv d.ch
  sb : Wb w g (128 * d.n) d.s
  um : UMap w m d.n d.u
theorem DiskAt.fr {w w' : World} {p g m : Nat} {d : Dk} {S : List Nat} (h : DiskAt w p g m d) (hf : Fr S w w') (hz : NoZ w S) (h1 : p ∉ S) (h2 : g ∉ S) (h3 : m ∉ S) : DiskAt w' p g m d := by
  obtain ⟨ok, ⟨cap, cv, hb, hc, hm, hz'⟩, sb, um⟩ := h
  exact ⟨ok, ⟨cap, cv, hb.fr hf h1, hc, hm, hz'.fr hf hz⟩, sb.fr hf h2, um.fr hf h3⟩
theorem DiskAt.to {w w' : World} {p g m : Nat} {d : Dk} (h : DiskAt w p g m d) (hf : Fr [] w w') : DiskAt w' p g m d := h.fr hf (NoZ.nil w) (by simp) (by simp) (by simp)
theorem DiskAt.ltp {w : World} {p g m : Nat} {d : Dk} (h : DiskAt w p g m d) : p < w.heap.size := by
  obtain ⟨ok, ⟨cap, cv, hb, hc, hm, hz'⟩, sb, um⟩ := h
  exact hb.lt
theorem DiskAt.ltg {w : World} {p g m : Nat} {d : Dk} (h : DiskAt w p g m d) : g < w.heap.size := h.sb.lt
theorem DiskAt.ltm {w : World} {p g m : Nat} {d : Dk} (h : DiskAt w p g m d) : m < w.heap.size := h.um.lt
theorem DiskAt.pg {w : World} {p g m : Nat} {d : Dk} (h : DiskAt w p g m d) : p ≠ g := by
  obtain ⟨ok, ⟨cap, cv, hb, hc, hm, hz'⟩, sb, um⟩ := h
  rintro rfl
  exact sb.not hb (by decide)
theorem DiskAt.pm {w : World} {p g m : Nat} {d : Dk} (h : DiskAt w p g m d) : p ≠ m := by
  obtain ⟨ok, ⟨cap, cv, hb, hc, hm, hz'⟩, sb, um⟩ := h
  rintro rfl
  exact um.not_cells hb
theorem DiskAt.gm {w : World} {p g m : Nat} {d : Dk} (h : DiskAt w p g m d) : g ≠ m := by
  obtain ⟨ok, ⟨cap, cv, hb, hc, hm, hz'⟩, ⟨cs, mk, hs, -⟩, um⟩ := h
  rintro rfl
  exact um.not_cells hs
/-- What a disk turns is no row of numbers. -/
theorem DiskAt.noz {w : World} {p g m : Nat} {d : Dk} (h : DiskAt w p g m d) : NoZ w [p, g, m] := by
  obtain ⟨ok, ⟨cap, cv, hb, hc, hm, hz'⟩, ⟨cs, mk, hs, -⟩, um⟩ := h
  intro k hk cs' mk' he
  simp only [List.mem_cons, List.not_mem_nil, or_false] at hk
  rcases hk with rfl | rfl | rfl
  · unfold Blk at hb
    rw [hb] at he
    injection he with he
    injection he with _ he _
    cases he
  · rw [hs] at he
    injection he with he
    injection he with _ he _
    cases he
  · exact um.not_cells he
/-- The struct's cells. -/
structure Cells (w : World) (p g m n : Nat) (armed : Int) (dead : Bool) (cap : Nat) (cv : Value) : Prop where
  c0 : w.cell? ⟨p, 0, none⟩ = some (.slice (some ⟨g, 0, none⟩) (128 * n) cap)
  c1 : w.cell? ⟨p, 1, none⟩ = some (.map (some m))
  c2 : w.cell? ⟨p, 2, none⟩ = some (.int .i64 armed)
  c3 : w.cell? ⟨p, 3, none⟩ = some cv
  c4 : w.cell? ⟨p, 4, none⟩ = some (.bool dead)
  fz : ∀ j, w.frozen? ⟨p, j, none⟩ = false
theorem DiskAt.cells {w : World} {p g m : Nat} {d : Dk} (h : DiskAt w p g m d) : ∃ cap cv, Cells w p g m d.n d.armed d.dead cap cv ∧ 128 * d.n ≤ cap ∧ cap ≤ maxLen ∧ Zs w cv d.ch := by
  obtain ⟨ok, ⟨cap, cv, hb, hc, hm, hz'⟩, sb, um⟩ := h
  exact ⟨cap, cv, ⟨by rw [hb.cell]; rfl, by rw [hb.cell]; rfl, by rw [hb.cell]; rfl, by rw [hb.cell]; rfl, by rw [hb.cell]; rfl, hb.frozen⟩, hc, hm, hz'⟩
/-- A string made of bytes in memory. -/
theorem conv_wb {w : World} {g N o n cap : Nat} {l : Nat → UInt8} (h : Wb w g N l) (hn : o + n ≤ N) : (convert 30 9 (.slice (some ⟨g, o, none⟩) n cap)).run Try.prog w = .ok (.string (bs l o n)) w := by
  have hl : ((List.range n).map fun i => l (o + i)).length = n := by simp
  have := run_convert_bytes_back (P := Try.prog) w 30 9 5 ⟨g, o, none⟩ cap ((List.range n).map fun i => l (o + i)) Try.underlying30 Try.underlying5 Try.underlying9 (fun j hj => by
    rw [addr_add]
    have hj' : j < n := by rw [hl] at hj; exact hj
    rw [h.cell (by omega : o + j < N)]
    simp)
  rw [hl] at this
  exact this
theorem bs_len (l : Nat → UInt8) (o n : Nat) (h : n ≤ maxLen) : (bs l o n).size ≤ maxLen := by rw [bs_size]; exact h
theorem elem30 : Try.prog.elem 30 = 5 := by kernel_rfl
theorem sizeOf5 (w : World) : (Go.sizeOf 5).run Try.prog w = .ok 1 w := by kernel_rfl
theorem slice_lh (w : World) (g o len cap a b : Nat) (la lb : Int) (ha : la = a) (hb : lb = b) (h1 : a ≤ b) (h2 : b ≤ cap) (h3 : a < cap) :
    (Instr.slice 30 (.slice (some ⟨g, o, none⟩) len cap) (some (.int .i64 la)) (some (.int .i64 lb)) none).run Try.prog w = .ok (.slice (some ⟨g, o + a, none⟩) (b - a) (cap - a)) w := by
  subst ha; subst hb
  rw [run_slice_lh (P := Try.prog) w 30 (some ⟨g, o, none⟩) len cap (by rw [elem30]; exact Try.underlying30) .i64 .i64 a b (by omega) (by omega) (by omega), elem30, sizeOf5]
  have h4 : ¬ cap = a := by omega
  simp [Result.andThen, sliced, h4, Addr.add]
theorem slice_l (w : World) (g o len cap a : Nat) (la : Int) (ha : la = a) (h1 : a < len) (h2 : len ≤ cap) :
    (Instr.slice 30 (.slice (some ⟨g, o, none⟩) len cap) (some (.int .i64 la)) none none).run Try.prog w = .ok (.slice (some ⟨g, o + a, none⟩) (len - a) (cap - a)) w := by
  subst ha
  rw [run_slice_l (P := Try.prog) w 30 (some ⟨g, o, none⟩) len cap (by rw [elem30]; exact Try.underlying30) .i64 a (by omega) (by omega), elem30, sizeOf5]
  have h4 : ¬ cap = a := by omega
  simp [Result.andThen, sliced, h4, Addr.add]
end Go.Proofs.Ythmnloapjdalpaa

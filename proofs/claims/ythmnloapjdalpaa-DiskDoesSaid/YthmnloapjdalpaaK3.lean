/- The reference's disk: bytes, Image, Safe, After. -/
import Derived.Test.YthmnloapjdalpaaK2
import Derived.Lib.AppendStr
namespace Go.Proofs.Ythmnloapjdalpaa
open Go.RowKit
set_option linter.unusedVariables false
set_option linter.unusedSimpArgs false
theorem bcs_next (T : Nat → UInt8) (a b : Nat) : bcs T 0 a ++ bcs T a b = bcs T 0 (a + b) := by
  unfold bcs
  rw [List.range_add, List.map_append, List.map_map]
  congr 1
  refine List.map_congr_left fun i _ => ?_
  simp
theorem strCells_bs (T : Nat → UInt8) (o n : Nat) : Go.Lib.strCells (bs T o n) = bcs T o n := by
  unfold Go.Lib.strCells bcs bs
  simp
theorem rd_bs {d : Dk} {i : Nat} {t : ByteArray} (hu : d.u i = some t) (ht : t.size = 128) : t = bs (rdB d) (i * 128) 128 := by
  refine at8_ext (by rw [bs_size, ht]) fun j hj => ?_
  rw [at8_bs (by omega)]
  unfold rdB
  rw [show (i * 128 + j) / 128 = i by omega, show (i * 128 + j) % 128 = j by omega, hu]
theorem rd_none {d : Dk} {i : Nat} (hu : d.u i = none) : bs d.s (i * 128) 128 = bs (rdB d) (i * 128) 128 := by
  refine bs_congr fun j hj => ?_
  unfold rdB
  rw [show (i * 128 + j) / 128 = i by omega, hu]
def rdT (d : Dk) (r : Bool) : Nat → UInt8 := if r then rdB d else d.s
def tellO (o : One) (r : Bool) : ByteArray := if r && o.un then o.wr else o.sf
theorem OneIs.tell {o : One} {d : Dk} {i : Nat} (h : OneIs o d i) (hok : d.Ok) (r : Bool) : tellO o r = bs (rdT d r) (i * 128) 128 := by
  obtain ⟨h1, h2, h3⟩ := h
  cases r with
  | false => exact h1
  | true =>
    cases hu : d.u i with
    | none =>
      rw [hu] at h2
      have : tellO o true = o.sf := by unfold tellO; rw [h2]; rfl
      rw [this, h1]
      exact rd_none hu
    | some t =>
      rw [hu] at h2
      have : tellO o true = o.wr := by unfold tellO; rw [h2]; rfl
      rw [this, h3 t hu]
      exact rd_bs hu (hok.un i t hu).2
def ByI (w0 w : World) (T : Nat → UInt8) (v : Value) (k : Nat) : Prop := w.ownsRow w0.heap.size 5 1 v (128 * k) (bcs T 0 (128 * k)) ∧ Fr [] w0 w
theorem ByI.push {w0 w' : World} {T : Nat → UInt8} {v' : Value} {k : Nat} {s : ByteArray} (hs : s = bs T (k * 128) 128) (hw : w'.ownsRow w0.heap.size 5 1 v' (128 * k + s.size) (bcs T 0 (128 * k) ++ Go.Lib.strCells s)) (hf : Fr [] w0 w') : ByI w0 w' T v' (k + 1) := by
  refine ⟨?_, hf⟩
  subst hs
  rw [strCells_bs, bs_size, show k * 128 = 128 * k by omega, bcs_next] at hw
  rw [show 128 * (k + 1) = 128 * k + 128 by omega]
  exact hw
set_option maxRecDepth 100000 in
set_option maxHeartbeats 2000000 in
theorem bytesR_any (r : Bool) (A : Addr) (cap : Nat) (L : List One) (d : Dk) (w : World) (hl : OS w (.slice (some A) d.n cap) L) (ha : Alike L d) (hok : d.Ok) :
    Calls Try.prog 85 #[.slice (some A) d.n cap, .bool r] w fun e w' => e = .returned (.string (bs (rdT d r) 0 (128 * d.n))) ∧ Fr [] w w' := by
  obtain ⟨i0, hi0, hz0, hz1, hz2⟩ := info3 Try.info5
  have hn1 := hok.n1
  have hn2 := hok.n2
  have HG := Lib.hid (fun i (hi : i < d.n) => ha.get hi)
  have HL := Lib.hid (fun W (hf : Fr [] w W) i o (hi : L[i]? = some o) => (hl.fr hf (NoO.nil _)).cell hi)
  have HT := Lib.hid (fun i o (h : OneIs o d i) => h.tell hok r)
  generalize d.n = N at *
  generalize hT : rdT d r = T at *
  have Hst : Hid (ByI w (w.alloc (.cells #[] 5)) T (.slice (some ⟨w.heap.size, 0, none⟩) 0 0) 0) := Lib.hid ⟨World.ownsRow_made w #[] 0 (Nat.le_refl _) (by simp [maxLen]) (by simp), (Fr.refl [] w).alloc _⟩
  clear hl ha hok hT
  obtain ⟨ab, ao, asp⟩ := A
  go_enter Try.func85, Try.ntmps85
  go_wp2_with fail
  go_loopg [5, 6] N (fun gg vo vi wr => ∃ (k : Nat), k + gg = N ∧ vi = .int .i64 (k : Int) ∧ ByI w wr T vo k)
  case atStart => exact ⟨0, by omega, rfl, Hst.out⟩
  case round =>
    obtain ⟨k, hk, rfl, ho, hf⟩ := hrel
    have Hk := Lib.hid hk
    have Hf := Lib.hid hf
    obtain ⟨Ao, co, rfl⟩ := own_shape ho
    have HO := Lib.hid ho
    clear hk ho
    by_cases hlt : k < N
    · have hlt' : (k : Int) < (N : Int) := by omega
      have hk0 : (0 : Int) ≤ (k : Int) := by omega
      have hwk : IntKind.i64.wrap ((k : Int) + 1) = (k : Int) + 1 := IntWalk.i64_in _ (by omega)
      obtain ⟨o, hLo, hOi⟩ := HG.out k hlt
      have hts := HT.out k o hOi
      obtain ⟨q', o', hqa, hqlt, x0, x1, x2⟩ := HL.out _ hf _ _ hLo
      injection hqa with hqa
      injection hqa with e1 e2 e3
      subst e1 e2 e3
      have hsz : (tellO o r).size = 128 := by rw [hts, bs_size]
      have HPush := Lib.hid (fun (v' : Value) (w' : World) (h1 : w'.ownsRow w.heap.size 5 1 v' (128 * k + (tellO o r).size) (bcs T 0 (128 * k) ++ Go.Lib.strCells (tellO o r))) (h2 : Fr [] w w') => ByI.push hts h1 h2)
      have hm1 : 128 * k + (tellO o r).size ≤ maxLen := by rw [hsz]; simp only [maxLen]; omega
      have hm2 : 128 * k + (tellO o r).size ≤ 140737488355328 := by rw [hsz]; omega
      have Hsz := hf.size
      clear hLo hOi hts hsz hf
      obtain ⟨sf, wr_, un⟩ := o
      simp only [oc0, oc1, oc2] at x0 x1 x2
      cases r with
      | false =>
        change Hid (∀ (v' : Value) (w' : World), w'.ownsRow w.heap.size 5 1 v' (128 * k + sf.size) (bcs T 0 (128 * k) ++ Go.Lib.strCells sf) → Fr [] w w' → ByI w w' T v' (k + 1)) at HPush
        change 128 * k + sf.size ≤ _ at hm1
        change 128 * k + sf.size ≤ _ at hm2
        go_wp2_with (at_builtin; go_must (refine Go.Lib.wpList_append_own_string _ rfl (.tmp 29) (.tmp 34) 30 9 rfl w.heap.size 5 i0 Try.underlying30 Try.underlying9 hi0 hz0 hz1 hz2 (.slice Ao (128 * k) co) (128 * k) (bcs T 0 (128 * k)) rfl HO.out _ rfl hm1 hm2 Hsz ?_; intro v3 w3 hown3 hg3 hnn3; have hf3 := Hf.out.own HO.out hg3; have hE3 := HPush.out _ _ hown3 hf3; have HEnd := Lib.hid hE3; clear hE3 hf3 hown3 hg3 hnn3))
        go_roundg (N - (k + 1))
        case measure => have := Hk.out; omega
        case rel => exact ⟨k + 1, by have := Hk.out; omega, by go_num, HEnd.out⟩
      | true =>
        cases un with
        | false =>
          change Hid (∀ (v' : Value) (w' : World), w'.ownsRow w.heap.size 5 1 v' (128 * k + sf.size) (bcs T 0 (128 * k) ++ Go.Lib.strCells sf) → Fr [] w w' → ByI w w' T v' (k + 1)) at HPush
          change 128 * k + sf.size ≤ _ at hm1
          change 128 * k + sf.size ≤ _ at hm2
          go_wp2_with (at_builtin; go_must (refine Go.Lib.wpList_append_own_string _ rfl (.tmp 29) (.tmp 34) 30 9 rfl w.heap.size 5 i0 Try.underlying30 Try.underlying9 hi0 hz0 hz1 hz2 (.slice Ao (128 * k) co) (128 * k) (bcs T 0 (128 * k)) rfl HO.out _ rfl hm1 hm2 Hsz ?_; intro v3 w3 hown3 hg3 hnn3; have hf3 := Hf.out.own HO.out hg3; have hE3 := HPush.out _ _ hown3 hf3; have HEnd := Lib.hid hE3; clear hE3 hf3 hown3 hg3 hnn3))
          go_roundg (N - (k + 1))
          case measure => have := Hk.out; omega
          case rel => exact ⟨k + 1, by have := Hk.out; omega, by go_num, HEnd.out⟩
        | true =>
          change Hid (∀ (v' : Value) (w' : World), w'.ownsRow w.heap.size 5 1 v' (128 * k + wr_.size) (bcs T 0 (128 * k) ++ Go.Lib.strCells wr_) → Fr [] w w' → ByI w w' T v' (k + 1)) at HPush
          change 128 * k + wr_.size ≤ _ at hm1
          change 128 * k + wr_.size ≤ _ at hm2
          go_wp2_with (at_builtin; go_must (refine Go.Lib.wpList_append_own_string _ rfl (.tmp 22) (.tmp 27) 30 9 rfl w.heap.size 5 i0 Try.underlying30 Try.underlying9 hi0 hz0 hz1 hz2 (.slice Ao (128 * k) co) (128 * k) (bcs T 0 (128 * k)) rfl HO.out _ rfl hm1 hm2 Hsz ?_; intro v3 w3 hown3 hg3 hnn3; have hf3 := Hf.out.own HO.out hg3; have hE3 := HPush.out _ _ hown3 hf3; have HEnd := Lib.hid hE3; clear hE3 hf3 hown3 hg3 hnn3))
          go_roundg (N - (k + 1))
          case measure => have := Hk.out; omega
          case rel => exact ⟨k + 1, by have := Hk.out; omega, by go_num, HEnd.out⟩
    · have hlt' : ¬ (k : Int) < (N : Int) := by omega
      obtain rfl : N = k := by have := Hk.out; omega
      have hv : (.slice Ao (128 * N) co : Value) ≠ .slice none 0 0 := fun h => by injection h with _ h _; omega
      obtain ⟨g, cap', cs, e1, h1, h2, h2', h3, h4⟩ := own_some HO.out hv
      injection e1 with e1 _ e2
      subst e1 e2
      have hwb := Wb.of_row (l := T) (n := 128 * N) h3 0 h4
      have hcv := conv_wb (o := 0) (n := 128 * N) (cap := co) hwb (by omega)
      rw [bs_congr (l' := T) (o' := 0) (fun i _ => by rw [Nat.zero_add])] at hcv
      clear h1 h2 h2' h3 h4 hwb hv
      go_wp2_with fail
      go_ret
      exact ⟨rfl, Hf.out⟩
theorem rImage_any (q : Nat) (d : Dk) (w : World) (h : RD w q d) : Calls Try.prog 43 #[ptr q] w fun e w' => e = .returned (.string d.image) ∧ Fr [] w w' := by
  obtain ⟨A, cap, cv, l, hb, hl, ha, hc, hA⟩ := h.form
  have HB := Lib.hid (bytesR_any true A cap l d w hl ha h.ok)
  have E := Lib.hid (show bs (rdT d true) 0 (128 * d.n) = d.image from rfl)
  have c0 := hb.cell 0
  simp at c0
  clear h hb hl ha hc hA
  generalize d.image = V at *
  go_enter Try.func43, Try.ntmps43
  go_wp2_with (go_at_call 85; refine HB.out.mono ?_; rintro e w1 ⟨rfl, hf1⟩)
  go_ret
  exact ⟨by rw [E.out]; rfl, hf1⟩
theorem rSafe_any (q : Nat) (d : Dk) (w : World) (h : RD w q d) : Calls Try.prog 44 #[ptr q] w fun e w' => e = .returned (.string d.safe) ∧ Fr [] w w' := by
  obtain ⟨A, cap, cv, l, hb, hl, ha, hc, hA⟩ := h.form
  have HB := Lib.hid (bytesR_any false A cap l d w hl ha h.ok)
  have E := Lib.hid (show bs (rdT d false) 0 (128 * d.n) = d.safe from rfl)
  have c0 := hb.cell 0
  simp at c0
  clear h hb hl ha hc hA
  generalize d.safe = V at *
  go_enter Try.func44, Try.ntmps44
  go_wp2_with (go_at_call 85; refine HB.out.mono ?_; rintro e w1 ⟨rfl, hf1⟩)
  go_ret
  exact ⟨by rw [E.out]; rfl, hf1⟩
theorem rAfter_any (q : Nat) (d : Dk) (A : Option Addr) (n cap : Nat) (l : List Int) (w : World) (h : RD w q d) (hz : Zw w (.slice A n cap) l) : Calls Try.prog 97 #[ptr q, .slice A n cap] w fun e w' => e = .returned (.string (d.after l)) ∧ Fr [] w w' := by
  have HA := Lib.hid (after_any q d A n cap l w h hz)
  have HB := Lib.hid (fun W A cap L (hl : OS W (.slice (some A) d.n cap) L) (ha : Alike L (d.die l)) => bytesR_any false A cap L (d.die l) W hl ha (h.ok.die l))
  have E := Lib.hid (show bs (rdT (d.die l) false) 0 (128 * (d.die l).n) = d.after l from rfl)
  clear h hz
  generalize d.after l = V at *
  go_enter Try.func97, Try.ntmps97
  go_wp2_with (first
    | (go_at_call 113; refine HA.out.mono ?_; rintro e w1 ⟨A', cap', lo, rfl, hl, ha, hf1⟩)
    | (go_at_call 85; refine (HB.out _ _ _ _ hl ha).mono ?_; rintro e w2 ⟨rfl, hf2⟩))
  go_ret
  exact ⟨by rw [E.out]; rfl, hf1.trans hf2⟩
end Go.Proofs.Ythmnloapjdalpaa

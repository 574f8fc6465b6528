/- The law's sector and made. A disk of one's own: its calls. -/
import Derived.Test.YthmnloapjdalpaaL1
import Derived.Test.YthmnloapjdalpaaW15
import Derived.Test.YthmnloapjdalpaaW16
namespace Go.Proofs.Ythmnloapjdalpaa
open Go.RowKit
set_option linter.unusedVariables false
set_option linter.unusedSimpArgs false
/-- A call, as the law has it. -/
structure OpD where
  on : Int
  kind : Int
  a : Int
  b : Int
  c : UInt8
  s : ByteArray
  ch : List Int
def sectorT (s : ByteArray) (c : UInt8) : ByteArray := if 128 < s.size then s else s ++ (allB c).extract s.size 128
theorem allB_size (c : UInt8) : (allB c).size = 128 := bs_size _ _ _
theorem sectorT_size (s : ByteArray) (c : UInt8) (h : s.size ≤ maxLen) : (sectorT s c).size ≤ maxLen := by
  unfold sectorT
  split
  · exact h
  · rw [ByteArray.size_append, ByteArray.size_extract, allB_size]
    simp only [maxLen]
    omega
set_option maxRecDepth 100000 in
theorem sector_any (v0 v1 v2 v3 v6 : Value) (c : UInt8) (s : ByteArray) (hs : s.size ≤ maxLen) (w : World) : Calls Try.prog 86 #[.agg #[v0, v1, v2, v3, .int .u8 (c.toNat : Int), .string s, v6]] w fun e w' => e = .returned (.string (sectorT s c)) ∧ Fr [] w w' := by
  have hf0 : Fr [] w (w.alloc (.cells #[v0, v1, v2, v3, .int .u8 (c.toNat : Int), .string s, v6] 94)) := (Fr.refl [] w).alloc _
  have hA := Lib.hid (fun W => all_any c W)
  have HF := Lib.hid hf0
  simp only [maxLen] at hs
  by_cases h1 : 128 < s.size
  · have h1' : (128 : Int) < (s.size : Int) := by omega
    have E : Hid (sectorT s c = s) := Lib.hid (if_pos h1)
    generalize sectorT s c = V at *
    go_enter Try.func86, Try.ntmps86
    go_wp2
    go_ret
    exact ⟨ret_str E.out.symm, HF.out⟩
  · have h1' : ¬ (128 : Int) < (s.size : Int) := by omega
    have hsz := allB_size c
    have h3 : ((s.size : Nat) : Int) ≤ ((allB c).size : Int) := by omega
    have E : Hid (sectorT s c = s ++ (allB c).extract s.size 128) := Lib.hid (if_neg h1)
    have e2 : ((allB c).extract s.size 128).size = 128 - s.size := by rw [ByteArray.size_extract, hsz]; omega
    have h4 : ¬ 9223372036854775807 < s.size + ((allB c).extract s.size 128).size := by omega
    clear e2
    generalize sectorT s c = V at *
    generalize allB c = X at *
    generalize hY : X.extract s.size 128 = Y at *
    have HC := Lib.hid (show ∀ W, Fr [] (w.alloc (.cells #[v0, v1, v2, v3, .int .u8 (c.toNat : Int), .string s, v6] 94)) W → W.cell? ⟨w.heap.size, 5, none⟩ = some (.string s) ∧ W.cell? ⟨w.heap.size, 4, none⟩ = some (.int .u8 (c.toNat : Int)) from
      fun W hf => ⟨hf.cell_some ((Blk.new w 94 #[v0, v1, v2, v3, .int .u8 (c.toNat : Int), .string s, v6]).cell 5) (by simp), hf.cell_some ((Blk.new w 94 #[v0, v1, v2, v3, .int .u8 (c.toNat : Int), .string s, v6]).cell 4) (by simp)⟩)
    have k0 := HC.out _ ((Fr.refl [] _).drew)
    have hcut : ∀ wx, (Instr.slice 9 (.string X) (some (.int .i64 (s.size : Int))) none none).run Try.prog wx = .ok (.string Y) wx := fun wx => by
      rw [run_slice_string_from_if (P := Try.prog) wx 9 X .i64 _ Try.underlying9, if_pos (by omega)]
      simp [← hY, hsz]
    go_enter Try.func86, Try.ntmps86
    go_wp2_with fail
    go_region_held3 (fun W => W.cell? ⟨w.heap.size, 5, none⟩ = some (.string s) ∧ W.cell? ⟨w.heap.size, 4, none⟩ = some (.int .u8 (c.toNat : Int)))
      (first | exact k0 | exact k1 | go_keep) (first
      | (go_at_call 88; refine (hA.out _).mono ?_; rintro e w2 ⟨rfl, hf2⟩; have k1 := HC.out _ ((Fr.refl [] _).drew.trans hf2)))
    go_wp2_with fail
    go_ret
    exact ⟨ret_str E.out.symm, HF.out.drew.trans hf2⟩
end Go.Proofs.Ythmnloapjdalpaa
namespace Go.Proofs.Ythmnloapjdalpaa
open Go.RowKit
set_option linter.unusedVariables false
set_option linter.unusedSimpArgs false
/-- A disk that was made since w0. -/
structure Dd (w0 w : World) (p : Nat) (d : Dk) : Prop where
  fr : Fr [] w0 w
  at_ : ∃ g m, DiskAt w p g m d ∧ w0.heap.size ≤ p ∧ w0.heap.size ≤ g ∧ w0.heap.size ≤ m
theorem Dd.ok {w0 w : World} {p : Nat} {d : Dk} (h : Dd w0 w p d) : d.Ok := by
  obtain ⟨f, g, m, ha, -⟩ := h
  exact ha.ok
theorem Dd.to {w0 w w' : World} {p : Nat} {d : Dk} (h : Dd w0 w p d) (hf : Fr [] w w') : Dd w0 w' p d := by
  obtain ⟨f, g, m, ha, h1, h2, h3⟩ := h
  exact ⟨f.trans hf, g, m, ha.to hf, h1, h2, h3⟩
theorem Dd.turned {w0 w w' : World} {p g m : Nat} {d' : Dk} (hf : Fr [] w0 w) (h1 : w0.heap.size ≤ p) (h2 : w0.heap.size ≤ g) (h3 : w0.heap.size ≤ m) (ht : Turned p g m w d' w') : Dd w0 w' p d' := by
  obtain ⟨g', m', ha, f', hg, hm⟩ := ht
  have hs := hf.size
  refine ⟨hf.step f' (fun k hk => .inr ?_), g', m', ha, h1, ?_, ?_⟩
  · simp at hk
    omega
  · omega
  · omega
theorem Turned.of_same {w w' : World} {p g m : Nat} {d : Dk} (h : DiskAt w' p g m d) (hf : Fr [p] w w') : Turned p g m w d w' := ⟨g, m, h, hf.mono (fun k hk _ => by simp at hk; simp [hk]), .inl rfl, .inl rfl⟩
section
variable {w0 w : World} {p : Nat} {d : Dk}
theorem Dd.count (h : Dd w0 w p d) : Calls Try.prog 29 #[ptr p] w fun e w' => e = .returned (.int .i64 d.n) ∧ w = w' := by
  obtain ⟨f, g, m, ha, h1, h2, h3⟩ := h
  exact Count_any p g m d w ha
theorem Dd.isDead (h : Dd w0 w p d) : Calls Try.prog 66 #[ptr p] w fun e w' => e = .returned (.bool d.dead) ∧ w = w' := by
  obtain ⟨f, g, m, ha, h1, h2, h3⟩ := h
  exact Dead_any p g m d w ha
theorem Dd.safe (h : Dd w0 w p d) : Calls Try.prog 31 #[ptr p] w fun e w' => e = .returned (.string d.safe) ∧ w = w' := by
  obtain ⟨f, g, m, ha, h1, h2, h3⟩ := h
  exact Safe_any p g m d w ha
theorem Dd.image (h : Dd w0 w p d) : Calls Try.prog 28 #[ptr p] w fun e w' => e = .returned (.string d.image) ∧ Fr [] w w' := by
  obtain ⟨f, g, m, ha, h1, h2, h3⟩ := h
  exact Image_any p g m d w ha
theorem Dd.after {A : Option Addr} {n cap : Nat} {l : List Int} (h : Dd w0 w p d) (hz : Zw w (.slice A n cap) l) : Calls Try.prog 49 #[ptr p, .slice A n cap] w fun e w' => e = .returned (.string (d.after l)) ∧ Fr [] w w' := by
  obtain ⟨f, g, m, ha, h1, h2, h3⟩ := h
  exact After_any p g m d A n cap l w ha hz
theorem Dd.waiting (h : Dd w0 w p d) : Calls Try.prog 50 #[ptr p] w (WaitP w d.waiting) := by
  obtain ⟨f, g, m, ha, h1, h2, h3⟩ := h
  exact Waiting_any p g m d w ha
theorem Dd.read (h : Dd w0 w p d) (i : Int) : Calls Try.prog 65 #[ptr p, .int .i64 i] w (ReadP w d i) := by
  obtain ⟨f, g, m, ha, h1, h2, h3⟩ := h
  exact Read_any p g m d i w ha
theorem Dd.write (h : Dd w0 w p d) (i : Int) (t : ByteArray) (ht : t.size ≤ maxLen) : Calls Try.prog 30 #[ptr p, .int .i64 i, .string t] w fun e w' => e = .returned (.int .i64 (d.writeE i t)) ∧ Dd w0 w' p (d.writeS i t) := by
  obtain ⟨f, g, m, ha, h1, h2, h3⟩ := h
  exact (Write_any p g m d i t w ha ht).mono fun e w' ⟨he, hT⟩ => ⟨he, Dd.turned f h1 h2 h3 hT⟩
theorem Dd.flush (h : Dd w0 w p d) (a b : Int) (ha1 : a ≤ 9223372036854775807) (hb1 : b ≤ 9223372036854775807) : Calls Try.prog 48 #[ptr p, .int .i64 a, .int .i64 b] w fun e w' => e = .returned (.int .i64 (d.flushE a b)) ∧ Dd w0 w' p (d.flushS a b) := by
  obtain ⟨f, g, m, ha, h1, h2, h3⟩ := h
  exact (Flush_any p g m d a b w ha ha1 hb1).mono fun e w' ⟨he, hT⟩ => ⟨he, Dd.turned f h1 h2 h3 hT⟩
theorem Dd.crash {A : Option Addr} {n cap : Nat} {l : List Int} (h : Dd w0 w p d) (hz : Zw w (.slice A n cap) l) : Calls Try.prog 32 #[ptr p, .slice A n cap] w fun e w' => e = .returned (.int .i64 d.crashE) ∧ Dd w0 w' p (d.crashS l) := by
  obtain ⟨f, g, m, ha, h1, h2, h3⟩ := h
  exact (Crash_any p g m d A n cap l w ha hz).mono fun e w' ⟨he, hT⟩ => ⟨he, Dd.turned f h1 h2 h3 hT⟩
theorem Dd.revive (h : Dd w0 w p d) : Calls Try.prog 33 #[ptr p] w fun e w' => e = .returned (.tuple #[]) ∧ Dd w0 w' p d.revive := by
  obtain ⟨f, g, m, ha, h1, h2, h3⟩ := h
  exact (Revive_any p g m d w ha).mono fun e w' ⟨he, hD, hf⟩ => ⟨he, Dd.turned f h1 h2 h3 (.of_same hD hf)⟩
theorem Dd.arm {A : Option Addr} {n cap : Nat} {l : List Int} (h : Dd w0 w p d) (x : Int) (hz : Zw w (.slice A n cap) l) (hb : n * 8 ≤ 140737488355328) (hx : x ≤ 9223372036854775807) : Calls Try.prog 81 #[ptr p, .int .i64 x, .slice A n cap] w fun e w' => e = .returned (.int .i64 (d.armE x)) ∧ Dd w0 w' p (d.armS x l) := by
  obtain ⟨f, g, m, ha, h1, h2, h3⟩ := h
  exact (Arm_any p g m d x A n cap l w ha hz hb hx).mono fun e w' ⟨he, hD, hf⟩ => ⟨he, Dd.turned f h1 h2 h3 (.of_same hD hf)⟩
theorem Dd.clone (h : Dd w0 w p d) : Calls Try.prog 37 #[ptr p] w fun e w' => ∃ q, e = .returned (ptr q) ∧ Dd w w' q d := by
  obtain ⟨f, g, m, ha, h1, h2, h3⟩ := h
  exact (Clone_any p g m d w ha).mono fun e w' ⟨q, g', m', he, hD, hf, k1, k2, k3⟩ => ⟨q, he, hf, g', m', hD, k1, k2, k3⟩
end
theorem Dd.new (t : ByteArray) (w : World) (h : newE t = 0) : Calls Try.prog 22 #[.string t] w fun e w' => ∃ p, e = .returned (.tuple #[ptr p, .int .i64 0]) ∧ Dd w w' p (newD t) :=
  (New_ok t w h).mono fun e w' ⟨p, g, m, he, hD, hf, k1, k2, k3⟩ => ⟨p, he, hf, g, m, hD, k1, k2, k3⟩
/-- Alive, and nothing armed. -/
structure Dk.Calm (d : Dk) : Prop where
  a : d.armed = 0
  d : d.dead = false
theorem Dk.Calm.gone {d : Dk} (h : d.Calm) : d.gone = false := by unfold Dk.gone; rw [h.a]; rfl
theorem Dk.Calm.tick {d : Dk} (h : d.Calm) : d.tick = d := if_pos h.a
theorem Dk.Calm.writeS {d : Dk} (h : d.Calm) (i : Int) (t : ByteArray) : d.writeS i t = if d.writeE0 i t = 0 then d.put i.toNat t else d := by
  unfold Dk.writeS
  rw [h.gone]
  have : (d.put i.toNat t).tick = d.put i.toNat t := if_pos h.a
  rw [this]
  simp
theorem Dk.Calm.writeE {d : Dk} (h : d.Calm) (i : Int) (t : ByteArray) : d.writeE i t = d.writeE0 i t := by
  unfold Dk.writeE
  rw [h.gone]
  split
  · rename_i h0
    rw [h0]
    rfl
  · rfl
theorem Dk.Calm.flushS {d : Dk} (h : d.Calm) (a b : Int) : d.flushS a b = if d.flushE0 a b = 0 then d.settle a.toNat (a + b).toNat else d := by
  unfold Dk.flushS
  rw [h.gone, h.tick]
  simp
theorem Dk.Calm.flushE {d : Dk} (h : d.Calm) (a b : Int) : d.flushE a b = d.flushE0 a b := by
  unfold Dk.flushE
  rw [h.gone]
  split
  · rename_i h0
    rw [h0]
    rfl
  · rfl
theorem Dk.Calm.write {d : Dk} (h : d.Calm) (i : Int) (t : ByteArray) : (d.writeS i t).Calm ∧ (d.writeS i t).n = d.n := by
  rw [h.writeS]
  split
  · exact ⟨⟨h.a, h.d⟩, rfl⟩
  · exact ⟨h, rfl⟩
theorem Dk.Calm.flush {d : Dk} (h : d.Calm) (a b : Int) : (d.flushS a b).Calm ∧ (d.flushS a b).n = d.n := by
  rw [h.flushS]
  split
  · exact ⟨⟨h.a, h.d⟩, rfl⟩
  · exact ⟨h, rfl⟩
theorem newD_calm (t : ByteArray) : (newD t).Calm := ⟨rfl, rfl⟩
end Go.Proofs.Ythmnloapjdalpaa

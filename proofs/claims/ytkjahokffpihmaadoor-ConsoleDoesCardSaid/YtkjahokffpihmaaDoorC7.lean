/- A console, plain and in memory; what makes it trusted; Reset. -/
import Derived.Test.YtkjahokffpihmaaDoorC6
namespace Go.Proofs.YtkjahokffpihmaaDoor
open Go.RowKit
set_option linter.unusedVariables false
set_option linter.unusedSimpArgs false
set_option maxRecDepth 100000
/-- A console: levels, login, focus, whether a level may be chosen, what was typed, each level's keys, the screen. -/
structure Con where
  lv : Nat
  lg : ByteArray
  fo : Int
  ch : Bool
  ty : ByteArray
  ks : List ByteArray
  sc : Sc
structure Con.Ok (x : Con) : Prop where
  l1 : 1 ≤ x.lv
  l8 : x.lv ≤ 8
  g1 : 1 ≤ x.lg.size
  g : x.lg.size ≤ 16
  f0 : -1 ≤ x.fo
  f1 : x.fo < x.lv
  t : x.ty.size ≤ 17
  n : x.ks.length = x.lv
  k : ∀ s ∈ x.ks, s.size ≤ 16
  s : x.sc.Ok
def hd (x : Con) (kv : Value) : Array Value := #[.int .i64 (x.lv : Int), .string x.lg, .int .i64 x.fo, .bool x.ch, .string x.ty, kv]
theorem hd_Hd (x : Con) (A : Option Addr) (n c : Nat) : Hd (hd x (.slice A n c)) := ⟨rfl, fun v hv => by
  simp [hd] at hv
  rcases hv with rfl | rfl | rfl | rfl | rfl | rfl <;> rfl⟩
/-- A row of strings in a block. -/
def KeysAt (w : World) (k : Nat) (l : List ByteArray) : Prop := ∃ cs, Blk w k 9 cs ∧ ∀ (i : Nat) (s : ByteArray), l[i]? = some s → cs[i]? = some (.string s)
structure ConAt (w : World) (c k : Nat) (x : Con) : Prop where
  hb : ∃ cap, Blk w c 70 (scells (hd x (.slice (some ⟨k, 0, none⟩) x.lv cap)) x.sc) ∧ x.lv ≤ cap ∧ cap ≤ maxLen
  hk : KeysAt w k x.ks
  ok : x.Ok
section
variable {w w' : World} {c k : Nat} {x : Con} {l : List ByteArray}
theorem KeysAt.fr {S : List Nat} (h : KeysAt w k l) (hf : Fr S w w') (hk : k ∉ S) : KeysAt w' k l := by
  obtain ⟨cs, hb, hc⟩ := h
  exact ⟨cs, hb.fr hf hk, hc⟩
theorem KeysAt.lt (h : KeysAt w k l) : k < w.heap.size := by obtain ⟨cs, hb, hc⟩ := h; exact hb.lt
theorem KeysAt.at_ (h : KeysAt w k l) {i : Nat} {s : ByteArray} (hi : l[i]? = some s) : w.cell? ⟨k, i, none⟩ = some (.string s) ∧ w.frozen? ⟨k, i, none⟩ = false := by
  obtain ⟨cs, hb, hc⟩ := h
  exact ⟨by rw [hb.cell]; exact hc i s hi, hb.frozen i⟩
theorem KeysAt.set_ (h : KeysAt w k l) (i : Nat) (s : ByteArray) : KeysAt (w.setCell ⟨k, i, none⟩ (.string s)) k (l.set i s) := by
  obtain ⟨cs, hb, hc⟩ := h
  refine ⟨_, hb.set_ i (.string s), fun j t hj => ?_⟩
  rw [List.getElem?_set] at hj
  rw [Array.getElem?_setIfInBounds]
  split at hj
  · next hij =>
    subst hij
    split at hj
    · next hl =>
      injection hj with hj
      subst hj
      have := hc i _ (List.getElem?_eq_getElem hl)
      have hlt := (Array.getElem?_eq_some_iff.1 this).1
      rw [if_pos rfl, if_pos hlt]
    · cases hj
  · next hij => rw [if_neg hij]; exact hc j t hj
theorem ConAt.blks (h : ConAt w c k x) : (∃ cs, Blk w c 70 cs) ∧ ∃ cs, Blk w k 9 cs := by
  obtain ⟨⟨cap, hb, -⟩, ⟨cs, hk, -⟩, -⟩ := h
  exact ⟨⟨_, hb⟩, ⟨_, hk⟩⟩
theorem ConAt.ne (h : ConAt w c k x) : c ≠ k := by
  obtain ⟨⟨_, h1⟩, ⟨_, h2⟩⟩ := h.blks
  exact h1.ne_ h2 (by decide)
theorem ConAt.lt (h : ConAt w c k x) : c < w.heap.size ∧ k < w.heap.size := by
  obtain ⟨⟨_, h1⟩, ⟨_, h2⟩⟩ := h.blks
  exact ⟨h1.lt, h2.lt⟩
theorem ConAt.fr {S : List Nat} (h : ConAt w c k x) (hf : Fr S w w') (h1 : c ∉ S) (h2 : k ∉ S) : ConAt w' c k x := by
  obtain ⟨⟨cap, hb, hc⟩, hk, ok⟩ := h
  exact ⟨⟨cap, hb.fr hf h1, hc⟩, hk.fr hf h2, ok⟩
theorem ConAt.to (h : ConAt w c k x) (hf : Fr [] w w') : ConAt w' c k x := h.fr hf (by simp) (by simp)
/-- The cells of its head. -/
structure ConC (w : World) (c k : Nat) (x : Con) (cap : Nat) : Prop where
  c0 : w.cell? ⟨c, 0, none⟩ = some (.int .i64 (x.lv : Int))
  c1 : w.cell? ⟨c, 1, none⟩ = some (.string x.lg)
  c2 : w.cell? ⟨c, 2, none⟩ = some (.int .i64 x.fo)
  c3 : w.cell? ⟨c, 3, none⟩ = some (.bool x.ch)
  c4 : w.cell? ⟨c, 4, none⟩ = some (.string x.ty)
  c5 : w.cell? ⟨c, 5, none⟩ = some (.slice (some ⟨k, 0, none⟩) x.lv cap)
  f : ∀ i, w.frozen? ⟨c, i, none⟩ = false
theorem conC {cap : Nat} (h : Blk w c 70 (scells (hd x (.slice (some ⟨k, 0, none⟩) x.lv cap)) x.sc)) : ConC w c k x cap :=
  ⟨sc_head h (by omega), sc_head h (by omega), sc_head h (by omega), sc_head h (by omega), sc_head h (by omega), sc_head h (by omega), fun i => h.frozen i⟩
end
def empty : ByteArray := ⟨#[]⟩
def pwS : List UInt8 := [112, 97, 115, 115, 119, 111, 114, 100, 58]
/-- What trusts it. -/
def trust (x : Con) : Con := { x with fo := -1, ch := false, ty := empty, sc := ssays sclear pwS }
def reset (x : Con) : Con := trust { x with ks := List.replicate x.lv empty }
theorem trust_ok {x : Con} (h : x.Ok) : (trust x).Ok := ⟨h.l1, h.l8, h.g1, h.g, by simp [trust], by have := h.l1; simp only [trust]; omega, by simp [trust, empty, ByteArray.size], h.n, h.k, ssays_ok sclear_ok _⟩
theorem reset_ok {x : Con} (h : x.Ok) : (reset x).Ok := trust_ok (x := { x with ks := List.replicate x.lv empty }) ⟨h.l1, h.l8, h.g1, h.g, h.f0, h.f1, h.t, by simp, fun s hs => by simp at hs; rw [hs.2]; simp [empty, ByteArray.size], h.s⟩
def ConP (w : World) (c k : Nat) (x : Con) (e : Ending) (w' : World) : Prop := e = .returned (.tuple #[]) ∧ ConAt w' c k x ∧ Fr [c] w w'
set_option maxHeartbeats 2000000 in
/-- Whatever head, screen: trusted. -/
theorem trusted_head (w : World) (c : Nat) (x : Con) (A : Option Addr) (n cap : Nat) (s : Sc) (h : Blk w c 70 (scells (hd x (.slice A n cap)) s)) :
    Calls Tryd.prog 34 #[ptr c] w (ScP w c (hd (trust x) (.slice A n cap)) (trust x).sc) := by
  have f2 := h.frozen 2
  have f3 := h.frozen 3
  have f4 := h.frozen 4
  have c2 := sc_head h (i := 2) (by omega)
  have c3 := sc_head h (i := 3) (by omega)
  have c4 := sc_head h (i := 4) (by omega)
  have HB := Lib.hid (show Blk (((w.setCell ⟨c, 2, none⟩ (.int .i64 (-1))).setCell ⟨c, 3, none⟩ (.bool false)).setCell ⟨c, 4, none⟩ (.string ⟨#[]⟩)) c 70 (scells (hd (trust x) (.slice A n cap)) s) ∧ Fr [c] w (((w.setCell ⟨c, 2, none⟩ (.int .i64 (-1))).setCell ⟨c, 3, none⟩ (.bool false)).setCell ⟨c, 4, none⟩ (.string ⟨#[]⟩)) from
    ⟨sethead (sethead (sethead h rfl (i := 2) (by omega) _) rfl (i := 3) (by omega) _) rfl (i := 4) (by omega) _, (((Fr.refl [c] w).setCell (by simp) _).setCell (by simp) _).setCell (by simp) _⟩)
  have HH := Lib.hid (hd_Hd (trust x) A n cap)
  have e : (trust x).sc = ssays sclear pwS := rfl
  rw [e]
  generalize hd (trust x) (.slice A n cap) = H at *
  clear h e
  unfold ScP
  go_enter Tryd.func34, Tryd.ntmps34
  go_wp2_with (go_at_call 48; refine (sclear_any _ c H s HB.out.1).mono ?_; rintro e w1 ⟨rfl, b1, f1⟩; have HS := Lib.hid (says_any w1 c H HH.out sclear sclear_ok b1 ⟨#[112, 97, 115, 115, 119, 111, 114, 100, 58]⟩ (by simp [maxLen, ByteArray.size])); have HF1 := Lib.hid (HB.out.2.trans f1); clear b1 f1)
  go_wp2_with (go_at_call 38; refine HS.out.mono ?_; rintro e w2 ⟨rfl, b2, f2⟩; have HN := Lib.hid (And.intro b2 (HF1.out.trans f2)); clear b2 f2)
  go_end0
  exact ⟨rfl, HN.out.1, HN.out.2⟩
theorem trusted_any (w : World) (c k : Nat) (x : Con) (h : ConAt w c k x) : Calls Tryd.prog 34 #[ptr c] w (ConP w c k (trust x)) := by
  have hne := h.ne
  obtain ⟨⟨cap, hb, h1, h2⟩, hk, ok⟩ := h
  refine (trusted_head w c x _ _ _ _ hb).mono fun e w' ⟨he, hb', hf⟩ => ⟨he, ⟨⟨cap, hb', h1, h2⟩, hk.fr hf (by simp; omega), trust_ok ok⟩, hf⟩
theorem Tryd.info9 : (Tryd.prog.info? 9).map (fun i => (i.zero, i.size, i.bytes)) = some (some (.string ⟨#[]⟩), 1, 16) := by kernel_rfl
/-- A make of strings: empty ones. -/
theorem make_strs (n : Nat) (hn : n ≤ 8) : ∃ Z : Array Value, (∀ w : World, (Instr.makeSlice 36 (.int .i64 n) (.int .i64 n)).run Tryd.prog w = .ok (.slice (some ⟨w.heap.size, 0, none⟩) n n) (w.alloc (.cells Z 9))) ∧ ∀ j, j < n → Z[j]? = some (.string empty) := by
  obtain ⟨i0, hi0, hz0, hz1, hz2⟩ := info3 Tryd.info9
  refine ⟨madeCells (Value.string ⟨#[]⟩).cells (n * 1), fun w => ?_, fun j hj => ?_⟩
  · have := run_make (P := Tryd.prog) w 36 9 i0 _ Tryd.underlying36 hi0 hz0 .i64 .i64 n n (by omega) (by omega) (by rw [hz2]; omega) (by omega)
    rw [hz1] at this
    simpa using this
  · simp [madeCells, Value.cells, hj, Nat.mod_one, empty]
/-- Behind a start: a new row of keys. -/
def ConN (w : World) (c : Nat) (x : Con) (e : Ending) (w' : World) : Prop := e = .returned (.tuple #[]) ∧ ∃ k, ConAt w' c k x ∧ Fr [c] w w' ∧ w.heap.size ≤ k
set_option maxHeartbeats 2000000 in
theorem reset_head (w : World) (c : Nat) (x : Con) (hx : x.Ok) (kv : Value) (hkv : ∃ A n cap, kv = .slice A n cap) (s : Sc) (h : Blk w c 70 (scells (hd x kv) s)) : Calls Tryd.prog 27 #[ptr c] w (ConN w c (reset x)) := by
  obtain ⟨A, n, cap, rfl⟩ := hkv
  have c0 := sc_head h (i := 0) (by omega)
  have c5 := sc_head h (i := 5) (by omega)
  have f5 := h.frozen 5
  have hlt := h.lt
  simp [hd] at c0 c5
  have l1 := hx.l1
  have l8 := hx.l8
  obtain ⟨Z, hmk, hZ⟩ := make_strs x.lv l8
  have hmk' := hmk w
  have hcs : c < w.heap.size + 1 := by omega
  obtain ⟨W, hW⟩ : ∃ W, (w.setCell ⟨c, 5, none⟩ (.slice (some ⟨w.heap.size, 0, none⟩) x.lv x.lv)).alloc (.cells Z 9) = W := ⟨_, rfl⟩
  have hb : Blk W c 70 (scells (hd x (.slice (some ⟨w.heap.size, 0, none⟩) x.lv x.lv)) s) := by
    rw [← hW]
    exact (sethead h rfl (i := 5) (by omega) _).alloc _
  have hk : KeysAt W w.heap.size (List.replicate x.lv empty) := by
    rw [← hW]
    refine ⟨Z, Blk.new' (by simp), fun i t hi => ?_⟩
    rw [List.getElem?_replicate] at hi
    split at hi
    · next hl => injection hi with hi; rw [← hi]; exact hZ i hl
    · cases hi
  have hf : Fr [c] w W := by
    rw [← hW]
    exact ((Fr.refl [c] w).setCell (by simp) _).alloc _
  have HT := Lib.hid ((trusted_head W c { x with ks := List.replicate x.lv empty } _ _ _ s hb).mono (R' := ConN w c (reset x)) (fun e w' ⟨he, hb', hf'⟩ => ⟨he, w.heap.size, ⟨⟨x.lv, hb', Nat.le_refl _, by simp only [maxLen]; omega⟩, hk.fr hf' (by simp; omega), reset_ok hx⟩, hf.trans hf', Nat.le_refl _⟩))
  have HW := Lib.hid hW
  clear hW hb hk hf h hZ hmk
  go_enter Tryd.func27, Tryd.ntmps27
  go_wp2_with fail
  rw [HW.out]
  refine HT.out.mono ?_
  rintro e w' hP
  obtain ⟨rfl, hQ⟩ := hP
  have HQ := Lib.hid hQ
  clear hQ
  go_wp2_with fail
  go_end0
  exact ⟨rfl, HQ.out⟩
theorem reset_any (w : World) (c k : Nat) (x : Con) (h : ConAt w c k x) : Calls Tryd.prog 27 #[ptr c] w (ConN w c (reset x)) := by
  obtain ⟨⟨cap, hb, h1, h2⟩, hk, ok⟩ := h
  exact reset_head w c x ok _ ⟨_, _, _, rfl⟩ _ hb
end Go.Proofs.YtkjahokffpihmaaDoor

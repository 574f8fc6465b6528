/- Line: Send, of the program. -/
import Derived.Test.YtjnefafkpaopaaaW2
import Derived.Laws.IdiomStrings
namespace Go.Proofs.Ytjnefafkpaopaaa
open Go.RowKit
set_option linter.unusedVariables false
set_option linter.unusedSimpArgs false

def pt (n : Nat) : Nat × Nat := (pv (n / 4), pv (n % 4))
def two (b : UInt8) : List (Nat × Nat) := [pt (b.toNat / 16), pt (b.toNat % 16)]
/-- The row of bytes. -/
def row (bs : List UInt8) : List (Nat × Nat) := pt 15 :: bs.flatMap two
theorem row_len (bs : List UInt8) : (row bs).length = 2 * bs.length + 1 := by
  unfold row
  induction bs with
  | nil => rfl
  | cons b bs ih => simp [two] at ih ⊢; omega
theorem row_snoc (bs : List UInt8) (b : UInt8) : row (bs ++ [b]) = row bs ++ two b := by simp [row]
theorem row_take {bs : List UInt8} {k : Nat} {b : UInt8} (h : bs[k]? = some b) : row (bs.take (k + 1)) = row (bs.take k) ++ two b := by
  rw [List.take_add_one, h]
  exact row_snoc _ _
theorem enc_app (a b : List (Nat × Nat)) : enc (a ++ b) = enc a ++ enc b := by simp [enc]
theorem enc_two (b : UInt8) : enc (two b) = [cx (b.toNat / 16), cx (b.toNat % 16)] := rfl
theorem enc_one (l : List (Nat × Nat)) : ∀ u ∈ enc l, u.oneCell' = true := by
  intro u hu
  rw [enc, List.mem_map] at hu
  obtain ⟨_, _, rfl⟩ := hu
  rfl
theorem and15 (n : Nat) (h : n < 256) : bits .and .u8 (n : Int) 15 = ((n % 16 : Nat) : Int) := by
  have := (by decide +kernel : ∀ b : Fin 256, bits .and .u8 ((b.val : Nat) : Int) 15 = ((b.val % 16 : Nat) : Int))
  exact this ⟨n, h⟩
theorem Try.info27 : (Try.prog.info? 27).map (fun i => (i.zero, i.size, i.bytes)) = some (some (.complex .f64 0 0), 1, 16) := by kernel_rfl

set_option maxRecDepth 100000 in
set_option maxHeartbeats 400000 in
theorem Send_long (s : ByteArray) (w : World) (h : 2047 < s.size) (h2 : s.size ≤ 140737488355328) : Calls Try.prog 5 #[.string s] w fun e w' => e = .returned (.tuple #[.slice none 0 0, .int .i64 33]) ∧ w = w' := by
  obtain ⟨N, hN⟩ : ∃ N, s.size = N := ⟨_, rfl⟩
  rw [hN] at h h2
  have hb : ¬ (2 * (N : Int) + 1 ≤ 4096) := by omega
  go_enter Try.func5, Try.ntmps5
  go_wp2
  go_ret2
  exact ⟨rfl, rfl⟩

/-- The bytes of a string, in a block of the call's own. -/
def BytesAt (w : World) (g : Nat) (s : ByteArray) : Prop := ∃ C p, w.heap[g]? = some (.cells (bytesRow s C) 5 p)
theorem BytesAt.lt {w : World} {g : Nat} {s : ByteArray} (h : BytesAt w g s) : g < w.heap.size := by
  obtain ⟨C, p, h⟩ := h
  exact (Array.getElem?_eq_some_iff.1 h).1
theorem BytesAt.fr {w w' : World} {g : Nat} {s : ByteArray} {S : List Nat} (h : BytesAt w g s) (hf : Fr S w w') (hg : g ∉ S) : BytesAt w' g s := by
  have hl := h.lt
  obtain ⟨C, p, h⟩ := h
  exact ⟨C, p, (hf.block g hl hg).trans h⟩
theorem BytesAt.at_ {w : World} {g : Nat} {s : ByteArray} (h : BytesAt w g s) {j : Nat} {b : UInt8} (hb : s.data.toList[j]? = some b) : w.cell? ⟨g, j, none⟩ = some (.int .u8 (b.toNat : Int)) := by
  obtain ⟨C, p, h⟩ := h
  have hj : j < s.data.size := by have := (List.getElem?_eq_some_iff.1 hb).1; simpa using this
  have := bytesRow_at s C j hj
  have hc : w.cell? ⟨g, j, none⟩ = (bytesRow s C)[j]? := by simp [World.cell?, h]
  rw [hc, this]
  have e : s.data[j] = b := by
    have h2 := (List.getElem?_eq_some_iff.1 hb).2
    simpa using h2
  rw [e]
theorem BytesAt.not {w : World} {g : Nat} {s : ByteArray} (h : BytesAt w g s) {t : TypeId} (ht : t ≠ 5) (cs : Array Value) : ¬ Blk w g t cs := by
  obtain ⟨C, p, h⟩ := h
  intro hb
  unfold Blk at hb
  rw [h] at hb
  injection hb with hb
  injection hb with _ hb
  exact ht hb.symm

structure SI (w : World) (s : ByteArray) (k : Nat) (v : Value) (W : World) : Prop where
  own : W.ownsRow w.heap.size 27 1 v (2 * k + 1) (enc (row (s.data.toList.take k)))
  by_ : BytesAt W (w.heap.size + 1) s
  fr : Fr [] w W
theorem SI.start (w : World) (s : ByteArray) (C : Nat) (p : Nat × Nat) : SI w s 0 (.slice (some ⟨w.heap.size, 0, none⟩) 1 1) ((w.alloc (.cells #[.complex .f64 4613937818241073152 4613937818241073152] 27)).alloc (.cells (bytesRow s C) 5 p)).drew := by
  refine ⟨⟨rfl, .inr ⟨w.heap.size, 1, _, rfl, Nat.le_refl _, ((Blk.new w 27 #[.complex .f64 4613937818241073152 4613937818241073152]).alloc _).drew, by omega, by simp [maxLen], rfl, rfl⟩⟩, ⟨C, p, ?_⟩, (((Fr.refl _ _).alloc _).alloc _).drew⟩
  show ((w.alloc (.cells #[.complex .f64 4613937818241073152 4613937818241073152] 27)).alloc (.cells (bytesRow s C) 5 p)).heap[w.heap.size + 1]? = _
  have := heap_alloc_new (w.alloc (.cells #[.complex .f64 4613937818241073152 4613937818241073152] 27)) (.cells (bytesRow s C) 5 p)
  simpa using this

def SendPost (w : World) (bs : List UInt8) (e : Ending) (w' : World) : Prop := ∃ v, e = .returned (.tuple #[v, .int .i64 0]) ∧ w'.ownsRow w.heap.size 27 1 v (2 * bs.length + 1) (enc (row bs)) ∧ Fr [] w w'
set_option maxRecDepth 100000 in
set_option maxHeartbeats 1000000 in
theorem Send_any (s : ByteArray) (w : World) (h : s.size ≤ 2047) : Calls Try.prog 5 #[.string s] w (SendPost w s.data.toList) := by
  obtain ⟨i0, hi0, hz0, hz1, hz2⟩ := info3 Try.info27
  have hcv := fun w => run_bytes_of_string (P := Try.prog) w 9 31 5 s Try.underlying9 Try.underlying31 Try.underlying5
  obtain ⟨N, hN⟩ : ∃ N, N = s.size := ⟨_, rfl⟩
  have hlen : s.data.toList.length = N := by rw [hN]; rfl
  rw [← hN] at h hcv
  have HN := Lib.hid hN
  have Hlen := Lib.hid hlen
  have hsz : s.size = N := hN.symm
  have HSt := Lib.hid fun C p => SI.start w s C p
  clear hlen hN
  go_enter Try.func5, Try.ntmps5
  go_wp2_with fail
  generalize grownCap (w.alloc (.cells #[.complex .f64 4613937818241073152 4613937818241073152] 27)) N 0 5 = C at *
  have hI0 := HSt.out C ((bytesRow s C).size, (bytesRow s C).size + 1)
  generalize ((w.alloc (.cells #[.complex .f64 4613937818241073152 4613937818241073152] 27)).alloc (.cells (bytesRow s C) 5 ((bytesRow s C).size, (bytesRow s C).size + 1))).drew = W0 at *
  have HI0 := Lib.hid hI0
  clear hI0
  go_loopg [4, 16] N (fun gg xv i wr => ∃ (k n' c : Nat) (A : Option Addr), k + gg = N ∧ i = .int .i64 k ∧ xv = .slice A n' c ∧ n' = 2 * k + 1 ∧ SI w s k (.slice A n' c) wr)
  case atStart => exact ⟨0, 1, 1, _, by omega, rfl, rfl, rfl, HI0.out⟩
  case round =>
    obtain ⟨k, n', c, A, hk, rfl, rfl, hn', hI⟩ := hrel
    have HI := Lib.hid hI
    have Hk := Lib.hid hk
    have Hn' := Lib.hid hn'
    by_cases hlt : k < N
    · obtain ⟨b, hb⟩ : ∃ b, s.data.toList[k]? = some b := ⟨_, List.getElem?_eq_getElem (by have := Hlen.out; omega)⟩
      have c0 := hI.by_.at_ hb
      have hbl : b.toNat < 256 := b.toNat_lt
      have Hb := Lib.hid hb
      have HP1 := Lib.hid (point_any (b.toNat / 16) wr (by omega))
      have HP2 := Lib.hid (point_any (b.toNat % 16) wr (by omega))
      have ha := and15 b.toNat hbl
      rw [show ((b.toNat / 16 : Nat) : Int) = (b.toNat : Int) / 16 from rfl] at HP1
      have HE := Lib.hid (enc_two b)
      obtain ⟨x1, y1, h1⟩ : ∃ x y, cx (b.toNat / 16) = .complex .f64 x y := ⟨_, _, rfl⟩
      obtain ⟨x2, y2, h2⟩ : ∃ x y, cx (b.toNat % 16) = .complex .f64 x y := ⟨_, _, rfl⟩
      obtain ⟨B, hB⟩ : ∃ B, b.toNat = B := ⟨_, rfl⟩
      obtain ⟨D, hD⟩ : ∃ D, b.toNat % 16 = D := ⟨_, rfl⟩
      rw [h1] at HP1 HE
      rw [h2] at HP2 HE
      rw [hD] at ha HP2
      rw [hB] at ha HP1 hbl c0
      have hD16 : D < 16 := by omega
      have hX0 := own_fr hI.own ((Fr.refl [] wr).alloc (.cells #[.complex .f64 x1 y1, .complex .f64 x2 y2] 27)) (by simp)
      have hWs := hI.fr.size
      rw [← hn'] at hX0
      have hn3 : n' ≤ 4095 := by omega
      have hBn := hI.by_
      clear hI hb h1 h2 hB hD hn' hk
      go_wp2_with (first
        | (go_at_call 9; first
            | ((with_reducible refine (HP1.out).mono ?_); rintro e w1 ⟨rfl, rfl⟩)
            | (go_must ((with_reducible refine (HP2.out).mono ?_); rintro e w1 ⟨rfl, rfl⟩)))
        | (at_builtin
           refine wpList_append_own _ rfl (.tmp 20) (.tmp 27) 22 rfl w.heap.size 27 i0 (.complex .f64 0 0) 1 16 Try.underlying22 hi0 hz0 hz1 hz2 rfl (by decide) _ _ _ rfl hX0 ⟨wr.heap.size, 0, none⟩ 2 2 [.complex .f64 x1 y1, .complex .f64 x2 y2] rfl rfl (news2 (by simp [go_sem]) (by simp [go_sem])) (by simp [Value.oneCell']) (by simp only [maxLen]; omega) (by omega) (by simp; omega) ?_
           go_must (intro x' w4 hox4 hgx4 _; have hfo := Fr.of_own hgx4; have hSI : SI w s (k + 1) x' w4 := ⟨by rw [row_take Hb.out, enc_app, HE.out, show 2 * (k + 1) + 1 = n' + 2 from by have := Hn'.out; omega]; exact hox4, (hBn.fr ((Fr.refl [] _).alloc _) (by simp)).fr hfo (fun hm => by obtain ⟨_, cs, hb⟩ := own_blk hX0 _ hm; exact (hBn.fr ((Fr.refl [] _).alloc (.cells #[.complex .f64 x1 y1, .complex .f64 x2 y2] 27)) (by simp)).not (by decide) cs hb), (HI.out.fr.alloc _).own hX0 hgx4⟩; obtain ⟨kx, px, rfl⟩ := own_shape hox4))
        | fail)
      go_roundg (N - (k + 1))
      case measure => have := Hk.out; omega
      case rel => exact ⟨k + 1, n' + 2, _, _, by have := Hk.out; omega, by go_num, rfl, by have := Hn'.out; omega, hSI⟩
    · have hkN : k = N := by omega
      subst hkN
      clear hk hlt hn' hI
      go_wp2_with fail
      go_ret2
      have hI := HI.out
      have hl := Hlen.out
      refine ⟨_, rfl, ?_, hI.fr⟩
      have := hI.own
      rw [List.take_of_length_le (by omega)] at this
      rw [hl]
      exact this
end Go.Proofs.Ytjnefafkpaopaaa

/- Numbers as bytes, the highest first; block.put, block.of. block.of, castellanref15.value: what bytes are as a number. -/
import Derived.Test.YthmnloapjdalpaaW16
import Derived.Test.YthmnloapjdalpaaRSum
import Derived.Test.YthmnloapjdalpaaL7
import Derived.Laws.Bits64b
namespace Go.Proofs.Ythmnloapjdalpaa
open Go.RowKit
set_option linter.unusedVariables false
set_option linter.unusedSimpArgs false
def big (l : List UInt8) : Nat := l.foldl (fun n b => 256 * n + b.toNat) 0
def numB (n many : Nat) : List UInt8 := (List.range many).map fun j => UInt8.ofNat (n / 256 ^ (many - 1 - j))
theorem numB_len (n many : Nat) : (numB n many).length = many := by simp [numB]
theorem big_snoc (l : List UInt8) (b : UInt8) : big (l ++ [b]) = 256 * big l + b.toNat := by simp [big, List.foldl_append]
def bytesC (l : List UInt8) : List Value := l.map fun x => .int .u8 (x.toNat : Int)
theorem bytesC_len (l : List UInt8) : (bytesC l).length = l.length := by simp [bytesC]
theorem bytesC_app (l m : List UInt8) : bytesC (l ++ m) = bytesC l ++ bytesC m := by simp [bytesC]
theorem bytesC_one (l : List UInt8) : ∀ u ∈ bytesC l, u.oneCell' = true := by
  intro u hu
  obtain ⟨x, -, rfl⟩ := List.mem_map.1 hu
  rfl
/-- Bytes in memory of one's own. -/
def BRow (B : Nat) (w : World) (v : Value) (l : List UInt8) : Prop := w.ownsRow B 5 1 v l.length (bytesC l)
theorem BRow.shape {B : Nat} {w : World} {v : Value} {l : List UInt8} (h : BRow B w v l) : ∃ A cap, v = .slice A l.length cap := own_shape h
theorem BRow.kept {B : Nat} {w w' : World} {v : Value} {l : List UInt8} (h : BRow B w v l) (hf : Fr [] w w') : BRow B w' v l := by
  rcases h with ⟨h0, h1⟩
  refine ⟨h0, ?_⟩
  rcases h1 with h1 | ⟨g, cap, cur, e, h2, h3, h4⟩
  · exact .inl h1
  · refine .inr ⟨g, cap, cur, e, h2, ?_, h4⟩
    exact (hf.block g (Array.getElem?_eq_some_iff.1 h3).1 (by simp)).trans h3
theorem BRow.next {B : Nat} {w : World} {v : Value} {l : List UInt8} {z : UInt8} (h : w.ownsRow B 5 1 v (l.length + 1) (bytesC l ++ bytesC [z])) : BRow B w v (l ++ [z]) := by
  unfold BRow
  have e1 : (l ++ [z]).length = l.length + 1 := by simp
  rw [e1, bytesC_app]
  exact h
theorem newsB (w : World) (z : UInt8) : ∀ (j : Nat) (u : Value), (bytesC [z])[j]? = some u → (w.alloc (.cells #[.int .u8 (z.toNat : Int)] 5)).cell? ((⟨w.heap.size, 0, none⟩ : Addr).add j) = some u := by
  intro j u hu
  match j, hu with
  | 0, hu =>
    injection hu with hu
    subst hu
    exact (Blk.new w 5 #[.int .u8 (z.toNat : Int)]).cell 0
  | _ + 1, hu => simp [bytesC] at hu
/-- What put begins with: bytes of one's own, or bytes anywhere with no room behind. -/
def PutFrom (B : Nat) (w : World) (v : Value) (l : List UInt8) : Prop := BRow B w v l ∨ ∃ ad, v = .slice (some ad) l.length l.length ∧ ∀ j u, (bytesC l)[j]? = some u → w.cell? (ad.add j) = some u
def putL (n many k : Nat) : List UInt8 := (List.range k).map fun j => UInt8.ofNat (n / 256 ^ (many - 1 - j))
theorem putL_next (n many k : Nat) : putL n many (k + 1) = putL n many k ++ [UInt8.ofNat (n / 256 ^ (many - 1 - k))] := by simp [putL, List.range_succ]
theorem putL_len (n many k : Nat) : (putL n many k).length = k := by simp [putL]
theorem PutFrom.shape {B : Nat} {w : World} {v : Value} {l : List UInt8} (h : PutFrom B w v l) : ∃ A cap, v = .slice A l.length cap := by
  rcases h with h | ⟨ad, rfl, -⟩
  · exact h.shape
  · exact ⟨_, _, rfl⟩
set_option maxRecDepth 100000 in
theorem put_any (w0 : World) (A : Option Addr) (cap : Nat) (l : List UInt8) (N many : Nat) (w : World) (hf : Fr [] w0 w) (h : PutFrom w0.heap.size w (.slice A l.length cap) l) (hl : l.length ≤ 1000) (hm : many ≤ 8) (hN : N < 18446744073709551616) :
    Calls Try.prog 53 #[.slice A l.length cap, .int .u64 (N : Int), .int .i64 (many : Int)] w fun e w' => ∃ A' cap', e = .returned (.slice A' (l.length + many) cap') ∧ (many = 0 ∨ BRow w0.heap.size w' (.slice A' (l.length + many) cap') (l ++ numB N many)) ∧ Fr [] w0 w' := by
  obtain ⟨i0, hi0, hz0, hz1, hz2⟩ := info3 Try.info5
  have H := Lib.hid h
  have Hf := Lib.hid hf
  have hw0 : IntKind.i64.wrap ((many : Int) - 1) = (many : Int) - 1 := IntWalk.i64_in _ (by omega)
  clear h hf
  go_enter Try.func53, Try.ntmps53
  go_wp2_with fail
  go_loopg [0, 7] (many + 1) (fun gg v i wr => ∃ (k : Nat) (A1 : Option Addr) (c1 : Nat), k + gg = many + 1 ∧ k ≤ many ∧ i = .int .i64 ((many : Int) - 1 - (k : Int)) ∧ v = .slice A1 (l.length + k) c1 ∧
    ((k = 0 ∧ A1 = A ∧ c1 = cap ∧ PutFrom w0.heap.size wr (.slice A l.length cap) l) ∨ BRow w0.heap.size wr (.slice A1 (l.length + k) c1) (l ++ putL N many k)) ∧ Fr [] w0 wr)
  case atStart => exact ⟨0, A, cap, by omega, by omega, by go_num, rfl, .inl ⟨rfl, rfl, rfl, H.out⟩, Hf.out⟩
  case round =>
    obtain ⟨k, A1, c1, hk, hkm, rfl, rfl, hrow, hfr⟩ := hrel
    have Hk := Lib.hid hk
    have Hrow := Lib.hid hrow
    have Hfr := Lib.hid hfr
    clear hk hrow hfr
    by_cases hlt : k < many
    · have hge : (0 : Int) ≤ (many : Int) - 1 - (k : Int) := by omega
      have hge2 : (k : Int) ≤ (many : Int) - 1 := by omega
      have hz : (N : Int) / 2 ^ (8 * (many - 1 - k)) % 256 = ((UInt8.ofNat (N / 256 ^ (many - 1 - k))).toNat : Int) := by
        rw [UInt8.toNat_ofNat', show (256 : Nat) = 2 ^ 8 from rfl, ← Nat.pow_mul]
        simp
      have Hnx := Lib.hid (putL_next N many k)
      have hwi : IntKind.i64.wrap ((many : Int) - 1 - (k : Int) - 1) = (many : Int) - 1 - ((k + 1 : Nat) : Int) := by rw [IntWalk.i64_in _ (by omega)]; omega
      generalize UInt8.ofNat (N / 256 ^ (many - 1 - k)) = z at *
      have HR : Hid (BRow w0.heap.size wr (.slice A1 (l.length + k) c1) (l ++ putL N many k) ∨ (k = 0 ∧ ∃ ad, A1 = some ad ∧ c1 = l.length ∧ ∀ j u, (bytesC l)[j]? = some u → wr.cell? (ad.add j) = some u)) := Lib.hid (by
        rcases Hrow.out with ⟨rfl, rfl, rfl, hp | ⟨ad, e1, hcells⟩⟩ | hown
        · left
          have : putL N many 0 = [] := rfl
          rw [this, List.append_nil]
          exact hp
        · right
          injection e1 with e1 _ e2
          exact ⟨rfl, ad, e1, e2, hcells⟩
        · exact .inl hown)
      clear Hrow
      rcases HR.out with hown | ⟨h0, ad, rfl, rfl, hcells⟩
      · have hL : (l ++ putL N many k).length = l.length + k := by rw [List.length_append, putL_len]
        have Hrow2 := Lib.hid (hown.kept ((Fr.refl [] wr).alloc (.cells #[.int .u8 (z.toNat : Int)] 5)))
        have Hfr2 := Lib.hid (Hfr.out.alloc (.cells #[.int .u8 (z.toNat : Int)] 5))
        have hsz2 := Hfr2.out.size
        unfold BRow at Hrow2
        rw [hL] at Hrow2
        have HL := Lib.hid hL
        clear hown hL HR
        go_wp2_with (at_builtin; go_must (refine wpList_append_own _ rfl (.tmp 14) (.tmp 20) 30 rfl w0.heap.size 5 i0 (.int .u8 0) 1 1 Try.underlying30 hi0 hz0 hz1 hz2 rfl (by decide) _ (l.length + k) _ rfl Hrow2.out ⟨wr.heap.size, 0, none⟩ 1 1 (bytesC [z]) rfl rfl (newsB wr z) (bytesC_one _) (by simp only [maxLen]; omega) (by omega) hsz2 ?_; intro v1 w9 hown1 hg1 hnn; have HF9 := Lib.hid (Hfr2.out.own Hrow2.out hg1); have HO9 := Lib.hid (BRow.next (l := l ++ putL N many k) (by rw [HL.out]; exact hown1)); clear hown1 hg1 hnn))
        obtain ⟨A9, c9, rfl⟩ := HO9.out.shape
        rw [List.length_append, HL.out] at HO9
        go_roundg (many + 1 - (k + 1))
        case measure => have := Hk.out; omega
        case rel => exact ⟨k + 1, A9, c9, by have := Hk.out; omega, by omega, by go_num, by simp [Nat.add_assoc, putL_len], .inr (by rw [Hnx.out, ← List.append_assoc]; exact HO9.out), HF9.out⟩
      · have H0 := Lib.hid h0
        have Hc2 := Lib.hid (fun j u hj => ((Fr.refl [] wr).alloc (.cells #[.int .u8 (z.toNat : Int)] 5)).cell_some (hcells j u hj) (by simp))
        have Hfr2 := Lib.hid (Hfr.out.alloc (.cells #[.int .u8 (z.toNat : Int)] 5))
        have hsz2 := Hfr2.out.size
        have hb1 : (bytesC l).length = (l.length + k) * 1 := by rw [bytesC_len]; omega
        have hb2 : l.length < l.length + k + 1 := by omega
        clear hcells HR h0
        go_wp2_with (at_builtin; go_must (refine wpList_append_grows _ rfl (.tmp 14) (.tmp 20) 30 rfl 5 i0 (.int .u8 0) 1 1 Try.underlying30 hi0 hz0 hz1 hz2 rfl (by decide) (some ad) (l.length + k) l.length (bytesC l) rfl (fun h => by cases h) hb1 (fun b hb j u hj => by cases hb; exact Hc2.out j u hj) ⟨wr.heap.size, 0, none⟩ 1 1 (bytesC [z]) rfl rfl (newsB wr z) (bytesC_one _) hb2 (by simp only [maxLen]; omega) (by omega) ?_; intro v1 w9 hown1 hg1; have HF9 := Lib.hid (Hfr2.out.trans (Fr.of_grown hg1 (fun k hk => by cases hk))); have HO9 := Lib.hid (ownsRow_base_a hown1 hsz2); clear hown1 hg1))
        have hk0 := H0.out
        have HO8 := HO9.out
        rw [show l.length + k + 1 = l.length + 1 by omega] at HO8
        have HO7 := Lib.hid (BRow.next HO8)
        obtain ⟨A9, c9, rfl⟩ := HO7.out.shape
        rw [List.length_append] at HO7
        have e1 : putL N many (k + 1) = [z] := by rw [Hnx.out, hk0]; rfl
        clear hk0 HO8
        go_roundg (many + 1 - (k + 1))
        case measure => have := Hk.out; omega
        case rel => exact ⟨k + 1, A9, c9, by have := Hk.out; omega, by omega, by go_num, by simp [H0.out], .inr (by rw [e1, H0.out]; exact HO7.out), HF9.out⟩
    · have hkm' : k = many := by omega
      have hge : ¬ (k : Int) ≤ (many : Int) - 1 := by omega
      have HE : Hid (many = 0 ∨ BRow w0.heap.size wr (.slice A1 (l.length + many) c1) (l ++ numB N many)) := Lib.hid (by
        rcases Hrow.out with ⟨h1, -⟩ | h1
        · exact .inl (by omega)
        · rw [hkm'] at h1
          exact .inr h1)
      subst hkm'
      go_wp2_with fail
      go_ret
      exact ⟨A1, c1, rfl, HE.out, Hfr.out⟩
end Go.Proofs.Ythmnloapjdalpaa
namespace Go.Proofs.Ythmnloapjdalpaa
open Go.RowKit
set_option linter.unusedVariables false
set_option linter.unusedSimpArgs false
theorem big_lt : ∀ l : List UInt8, big l < 256 ^ l.length := by
  intro l
  suffices h : ∀ (m : List UInt8), big m.reverse < 256 ^ m.length by
    have := h l.reverse
    rwa [List.reverse_reverse, List.length_reverse] at this
  intro m
  induction m with
  | nil => decide
  | cons a m ih =>
    rw [List.reverse_cons, big_snoc, List.length_cons, Nat.pow_succ]
    have := a.toNat_lt
    omega
theorem or_low (n b : Nat) (hb : b < 256) : n * 256 ||| b = n * 256 + b := by
  have := Nat.shiftLeft_add_eq_or_of_lt (i := 8) (b := b) (by omega) n
  rw [Nat.shiftLeft_eq] at this
  exact this.symm
theorem bits_next (n b : Nat) (hn : n < 72057594037927936) (hb : b < 256) : bits .or .u64 ((n : Int) * 256) (b : Int) = ((256 * n + b : Nat) : Int) := by
  have h := bits_or_u64_nat (n * 256) b (by omega) (by omega)
  rw [or_low n b hb] at h
  rw [show ((n * 256 : Nat) : Int) = (n : Int) * 256 by omega] at h
  rw [h]
  omega
theorem big_take (l : List UInt8) (k : Nat) (hk : k < 8) (hl : k ≤ l.length) : big (l.take k) < 72057594037927936 := by
  have := big_lt (l.take k)
  rw [List.length_take] at this
  have h2 : 256 ^ (min k l.length) ≤ 256 ^ 7 := Nat.pow_le_pow_right (by omega) (by omega)
  have h3 : (256 : Nat) ^ 7 = 72057594037927936 := by decide
  omega
theorem big_take_next {l : List UInt8} {k : Nat} {c : UInt8} (h : l[k]? = some c) : big (l.take (k + 1)) = 256 * big (l.take k) + c.toNat := by rw [take_next h, big_snoc]
set_option maxRecDepth 100000 in
theorem of_any (s : ByteArray) (hs : s.size ≤ 8) (w : World) : Calls Try.prog 59 #[.string s] w fun e w' => e = .returned (.int .u64 (big s.data.toList : Int)) ∧ w = w' := by
  obtain ⟨L, hL⟩ : ∃ L, s.data.toList = L := ⟨_, rfl⟩
  have hlen : L.length = s.size := by rw [← hL]; rfl
  have Hlen := Lib.hid hlen
  have HL := Lib.hid hL
  have Hat := Lib.hid (fun k (hk : k < s.size) => (show L[k]? = some (at8 s k) by have := at8_get hk; rw [← hL]; simpa using this))
  obtain ⟨N, hN⟩ : ∃ N, s.size = N := ⟨_, rfl⟩
  have HN := Lib.hid hN
  clear hL hlen
  go_enter Try.func59, Try.ntmps59
  go_wp2_with fail
  go_loopg [3, 7] N (fun gg v i wr => ∃ k : Nat, k + gg = N ∧ i = .int .i64 (k : Int) ∧ v = .int .u64 (big (L.take k) : Int) ∧ w = wr)
  case atStart => exact ⟨0, by omega, rfl, rfl, rfl⟩
  case round =>
    obtain ⟨k, hk, rfl, rfl, rfl⟩ := hrel
    have Hk := Lib.hid hk
    by_cases hlt : k < N
    · have hlt' : (k : Int) < (N : Int) := by omega
      have hk0 : (0 : Int) ≤ (k : Int) := by omega
      have hk8 : k < 8 := by omega
      have hwi : IntKind.i64.wrap ((k : Int) + 1) = (k : Int) + 1 := IntWalk.i64_in _ (by omega)
      have hel : ∀ h, s[k]'h = at8 s k := fun h => at8_elem h
      have hnx := Lib.hid (big_take_next (Hat.out k (by rw [HN.out]; exact hlt)))
      have hbt := big_take L k hk8 (by rw [Hlen.out, HN.out]; omega)
      generalize big (L.take k) = X at *
      generalize at8 s k = c at *
      have hcl := c.toNat_lt
      have hbn := bits_next X c.toNat hbt (by omega)
      have Hnx := Lib.hid (congrArg (fun (x : Nat) => (x : Int)) hnx.out)
      clear hnx hk
      go_wp2_with fail
      go_roundg (N - (k + 1))
      case measure => have := Hk.out; omega
      case rel => exact ⟨k + 1, by have := Hk.out; omega, by go_num, by rw [Hnx.out]; go_num, rfl⟩
    · have hlt' : ¬ (k : Int) < (N : Int) := by omega
      have hkN : L.take k = L := List.take_of_length_le (by have := Hlen.out; rw [HN.out] at this; omega)
      rw [hkN]
      have HE := Lib.hid (show (big L : Int) = (big s.data.toList : Int) by rw [HL.out])
      generalize big L = X at *
      clear hkN hk
      go_wp2_with fail
      go_ret
      exact ⟨ret_int HE.out, rfl⟩
theorem u64_in (n : Int) (h0 : 0 ≤ n) (h : n < 18446744073709551616) : IntKind.u64.wrap n = n := by
  show n % 18446744073709551616 = n
  omega
set_option maxRecDepth 100000 in
theorem value_any (s : ByteArray) (hs : s.size ≤ 8) (w : World) : Calls Try.prog 60 #[.string s] w fun e w' => e = .returned (.int .u64 (big s.data.toList : Int)) ∧ w = w' := by
  obtain ⟨L, hL⟩ : ∃ L, s.data.toList = L := ⟨_, rfl⟩
  have hlen : L.length = s.size := by rw [← hL]; rfl
  have Hlen := Lib.hid hlen
  have HL := Lib.hid hL
  have Hat := Lib.hid (fun k (hk : k < s.size) => (show L[k]? = some (at8 s k) by have := at8_get hk; rw [← hL]; simpa using this))
  obtain ⟨N, hN⟩ : ∃ N, s.size = N := ⟨_, rfl⟩
  have HN := Lib.hid hN
  clear hL hlen
  go_enter Try.func60, Try.ntmps60
  go_wp2_with fail
  go_loopg [3, 4] N (fun gg v i wr => ∃ k : Nat, k + gg = N ∧ i = .int .i64 (k : Int) ∧ v = .int .u64 (big (L.take k) : Int) ∧ w = wr)
  case atStart => exact ⟨0, by omega, rfl, rfl, rfl⟩
  case round =>
    obtain ⟨k, hk, rfl, rfl, rfl⟩ := hrel
    have Hk := Lib.hid hk
    by_cases hlt : k < N
    · have hlt' : (k : Int) < (N : Int) := by omega
      have hk0 : (0 : Int) ≤ (k : Int) := by omega
      have hk8 : k < 8 := by omega
      have hwi : IntKind.i64.wrap ((k : Int) + 1) = (k : Int) + 1 := IntWalk.i64_in _ (by omega)
      have hel : ∀ h, s[k]'h = at8 s k := fun h => at8_elem h
      have hnx := Lib.hid (big_take_next (Hat.out k (by rw [HN.out]; exact hlt)))
      have hbt := big_take L k hk8 (by rw [Hlen.out, HN.out]; omega)
      generalize big (L.take k) = X at *
      generalize at8 s k = c at *
      have hcl := c.toNat_lt
      have hv1 : IntKind.u64.wrap (256 * (X : Int)) = 256 * (X : Int) := u64_in _ (by omega) (by omega)
      have hv2 : IntKind.u64.wrap (256 * (X : Int) + (c.toNat : Int)) = 256 * (X : Int) + (c.toNat : Int) := u64_in _ (by omega) (by omega)
      have Hnx := Lib.hid (congrArg (fun (x : Nat) => (x : Int)) hnx.out)
      clear hnx hk
      go_wp2_with fail
      go_roundg (N - (k + 1))
      case measure => have := Hk.out; omega
      case rel => exact ⟨k + 1, by have := Hk.out; omega, by go_num, by rw [Hnx.out]; go_num, rfl⟩
    · have hlt' : ¬ (k : Int) < (N : Int) := by omega
      have hkN : L.take k = L := List.take_of_length_le (by have := Hlen.out; rw [HN.out] at this; omega)
      rw [hkN]
      have HE := Lib.hid (show (big L : Int) = (big s.data.toList : Int) by rw [HL.out])
      generalize big L = X at *
      clear hkN hk
      go_wp2_with fail
      go_ret
      exact ⟨ret_int HE.out, rfl⟩
def stampOf (s : ByteArray) : Nat := big (s.extract 120 s.size).data.toList
def sumOf (s : ByteArray) : Nat := big (s.extract 116 120).data.toList
def parseE (s : ByteArray) : Int := if s.size ≠ 128 then 152 else if 4611686018427387904 < stampOf s ∨ sumOf s ≠ (crc (s.extract 0 116).data.toList).toNat then 153 else 0
def parseD (s : ByteArray) : ByteArray := if parseE s = 0 then s.extract 0 116 else ⟨#[]⟩
def parseN (s : ByteArray) : Nat := if parseE s = 0 then stampOf s else 0
def stampedE (s : ByteArray) : Bool := decide (stampOf s ≤ 4611686018427387904)
def stampedN (s : ByteArray) : Nat := if stampedE s then stampOf s else 0
set_option maxRecDepth 100000 in
theorem stamped_any (s : ByteArray) (hs : s.size = 128) (w : World) : Calls Try.prog 58 #[.string s] w fun e w' => e = .returned (.tuple #[.int .i64 (stampedN s : Int), .bool (stampedE s)]) ∧ w = w' := by
  have hsz : (s.extract 120 s.size).size = 8 := by rw [ByteArray.size_extract]; omega
  have hO := Lib.hid (fun W => of_any (s.extract 120 s.size) (by omega) W)
  have hsl := fun wx => sl_l s 120 (120 : Int) rfl wx (by omega)
  obtain ⟨X, hX⟩ : ∃ X, s.extract 120 s.size = X := ⟨_, rfl⟩
  have E : Hid (stampOf s = big X.data.toList) := Lib.hid (by unfold stampOf; rw [hX])
  rw [hX] at hO hsl
  generalize big X.data.toList = B at *
  by_cases h : B ≤ 4611686018427387904
  · have h1 : ¬ (4611686018427387904 : Int) < (B : Int) := by omega
    have E1 := Lib.hid (show stampedE s = true by unfold stampedE; rw [E.out]; simpa using h)
    have E2 := Lib.hid (show ((B : Nat) : Int) = (stampedN s : Int) by unfold stampedN; rw [E1.out, if_pos rfl, E.out])
    have hw : IntKind.i64.wrap (B : Int) = (B : Int) := IntWalk.i64_in _ (by omega)
    clear hsz hs h
    generalize stampedE s = q at *
    generalize stampedN s = r at *
    go_enter Try.func58, Try.ntmps58
    go_wp2_with (go_at_call 59; refine (hO.out _).mono ?_; rintro e w1 ⟨rfl, rfl⟩)
    go_ret2
    rw [E1.out, ← E2.out]
    exact ⟨rfl, rfl⟩
  · have h1 : (4611686018427387904 : Int) < (B : Int) := by omega
    have E1 := Lib.hid (show stampedE s = false by unfold stampedE; rw [E.out]; simpa using h)
    have E2 := Lib.hid (show stampedN s = 0 by unfold stampedN; rw [E1.out]; rfl)
    clear hsz hs h
    generalize stampedE s = q at *
    generalize stampedN s = r at *
    go_enter Try.func58, Try.ntmps58
    go_wp2_with (go_at_call 59; refine (hO.out _).mono ?_; rintro e w1 ⟨rfl, rfl⟩)
    go_ret2
    rw [E1.out, E2.out]
    exact ⟨rfl, rfl⟩
end Go.Proofs.Ythmnloapjdalpaa

/- The program's Load. -/
import Derived.Test.YtonongaakieciaaW11
namespace Go.Proofs.Ytonongaakieciaa
open Go.RowKit
set_option linter.unusedVariables false
set_option maxRecDepth 100000
set_option linter.unusedSimpArgs false
theorem bits_or_nat (x y : Nat) (hx : x < 2 ^ 62) (hy : y < 2 ^ 62) : bits .or .i64 (x : Int) (y : Int) = ((x ||| y : Nat) : Int) := by
  have h1 : x ||| y < 2 ^ 62 := Nat.or_lt_two_pow hx hy
  show IntKind.i64.wrap (((BitVec.ofInt 64 (x : Int) ||| BitVec.ofInt 64 (y : Int)).toNat : Nat) : Int) = _
  rw [BitVec.toNat_or, BitVec.ofInt_natCast, BitVec.ofInt_natCast, BitVec.toNat_ofNat, BitVec.toNat_ofNat, Nat.mod_eq_of_lt (by omega), Nat.mod_eq_of_lt (by omega)]
  exact IntWalk.i64_in _ (by omega)
theorem or_byte (n c : Nat) (hc : c < 256) : 256 * n ||| c = 256 * n + c := by
  have := Nat.two_pow_add_eq_or_of_lt (i := 8) hc n
  simpa using this.symm
theorem ret_tup {a b e : Int} (h : a = b) : Ending.returned (.tuple #[.int .i64 a, .int .i64 e]) = .returned (.tuple #[.int .i64 b, .int .i64 e]) := by rw [h]
/-- The word of bytes. -/
def word (l : List UInt8) : Nat := l.foldl (fun n c => 256 * n + c.toNat) 0
theorem word_snoc (l : List UInt8) (c : UInt8) : word (l ++ [c]) = 256 * word l + c.toNat := by simp [word]
theorem word_lt' : ∀ (l : List UInt8) (acc : Nat), l.foldl (fun n c => 256 * n + c.toNat) acc < (acc + 1) * 256 ^ l.length := by
  intro l
  induction l with
  | nil => intro acc; simp
  | cons c l ih =>
    intro acc
    rw [List.foldl_cons, List.length_cons, Nat.pow_succ]
    have h1 := ih (256 * acc + c.toNat)
    have h2 := c.toNat_lt
    have h3 : (256 * acc + c.toNat + 1) * 256 ^ l.length ≤ (256 * (acc + 1)) * 256 ^ l.length := Nat.mul_le_mul_right _ (by omega)
    have h4 : (acc + 1) * (256 ^ l.length * 256) = (256 * (acc + 1)) * 256 ^ l.length := by
      rw [Nat.mul_comm (256 ^ l.length) 256, ← Nat.mul_assoc, Nat.mul_comm (acc + 1) 256]
    omega
theorem word_lt (l : List UInt8) : word l < 256 ^ l.length := by
  have := word_lt' l 0
  simpa [word] using this
/-- What Load tells. -/
def ldR (st : St) (t : List Pg) (a k r : Int) : Int × Int :=
  if okT st.n t = false then (0, 84) else if k ≠ 1 ∧ k ≠ 2 ∧ k ≠ 4 then (0, 80) else (((word (rdR st t a k r).1 : Nat) : Int), (rdR st t a k r).2)
set_option maxRecDepth 100000 in
set_option maxHeartbeats 1000000 in
theorem Load_no (b p F m cap : Nat) (st : St) (A : Option Addr) (t : List Pg) (a k r : Int) (w : World) (ht : Tb w b (.slice A m cap) t) (h : MemAt w p F st) (hT : okT st.n t = false) :
    Calls Try.prog 77 #[ptr p, .slice A m cap, .int .i64 a, .int .i64 k, .int .i64 r] w fun e w' => e = .returned (.tuple #[.int .i64 0, .int .i64 84]) ∧ Fr [] w w' := by
  have Hc := Lib.hid (Check_no b p F st.n m cap A t w ht h.hd hT)
  clear h ht hT
  go_enter Try.func77, Try.ntmps77
  go_wp2_with (go_at_call 47; go_must ((with_reducible refine Hc.out.mono ?_); rintro e w1 ⟨rfl, hf1⟩))
  go_ret2
  exact ⟨rfl, hf1⟩
set_option maxRecDepth 100000 in
set_option maxHeartbeats 1000000 in
theorem Load_size (b p F m cap : Nat) (st : St) (A : Option Addr) (t : List Pg) (a k r : Int) (w : World) (ht : Tb w b (.slice A m cap) t) (h : MemAt w p F st) (hT : okT st.n t = true) (hk : k ≠ 1 ∧ k ≠ 2 ∧ k ≠ 4) :
    Calls Try.prog 77 #[ptr p, .slice A m cap, .int .i64 a, .int .i64 k, .int .i64 r] w fun e w' => e = .returned (.tuple #[.int .i64 0, .int .i64 80]) ∧ Fr [] w w' := by
  have Hc := Lib.hid (Check_ok b p F st.n m cap A t w ht h.hd hT)
  have d1 : (k != 1) = true := by rw [bne_iff_ne]; exact hk.1
  have d2 : (k != 2) = true := by rw [bne_iff_ne]; exact hk.2.1
  have d3 : (k != 4) = true := by rw [bne_iff_ne]; exact hk.2.2
  clear h ht hT hk
  go_enter Try.func77, Try.ntmps77
  go_wp2_with (go_at_call 47; go_must ((with_reducible refine Hc.out.mono ?_); rintro e w1 ⟨rfl, hf1⟩))
  go_ret2
  exact ⟨rfl, hf1⟩
set_option maxRecDepth 100000 in
set_option maxHeartbeats 1000000 in
theorem Load_main (b p F m cap : Nat) (st : St) (A : Option Addr) (t : List Pg) (a k r : Int) (w : World) (ht : Tb w b (.slice A m cap) t) (h : MemAt w p F st) (hT : okT st.n t = true) (hk : k = 1 ∨ k = 2 ∨ k = 4) (ha : a ≤ 9223372036854775807) (hbw : b < w.heap.size) (l : List UInt8) (er : Int) (hrd : rdR st t a k r = (l, er)) (hl : l.length ≤ 4) :
    Calls Try.prog 77 #[ptr p, .slice A m cap, .int .i64 a, .int .i64 k, .int .i64 r] w fun e w' => e = .returned (.tuple #[.int .i64 (word l : Nat), .int .i64 er]) ∧ Fr [] w w' := by
  have Hc := Lib.hid (Check_ok b p F st.n m cap A t w ht h.hd hT)
  have Hr : Hid (∀ W, Fr [] w W → Calls Try.prog 62 #[ptr p, .slice A m cap, .int .i64 a, .int .i64 k, .int .i64 r] W fun e w' => e = .returned (.tuple #[.string ⟨l.toArray⟩, .int .i64 er]) ∧ Fr [] W w') :=
    Lib.hid fun W hf => (Read_any b p F m cap st A t a k r W (ht.fr hf (by simp)) (h.to hf (by simp) (by simp)) ha (by have := hf.size; omega)).mono fun e w' ⟨he, hf⟩ => ⟨by rw [he, hrd], hf⟩
  have d1 : (k != 1 && k != 2 && k != 4) = false := by rcases hk with rfl | rfl | rfl <;> rfl
  have hcv := fun w => run_bytes_of_string (P := Try.prog) w 9 118 5 ⟨l.toArray⟩ Try.underlying9 Try.underlying118 Try.underlying5
  have hsz : (⟨l.toArray⟩ : ByteArray).size = l.length := rfl
  obtain ⟨N, hN⟩ : ∃ N, l.length = N := ⟨_, rfl⟩
  rw [hN] at hl
  have HN := Lib.hid hN
  rw [hsz, hN] at hcv
  have HS := Lib.hid hsz
  clear h ht hT hrd hN hsz
  rcases hk with rfl | rfl | rfl
  · go_enter Try.func77, Try.ntmps77
    go_wp2_with (first
      | (go_at_call 47; go_must ((with_reducible refine Hc.out.mono ?_); rintro e w1 ⟨rfl, hf1⟩))
      | (go_at_call 62; go_must ((with_reducible refine (Hr.out _ hf1).mono ?_); rintro e w2 ⟨rfl, hf2⟩))
      | fail)
    have hB : ∀ (j : Nat) (c : UInt8), l[j]? = some c → ((w2.alloc (.cells (bytesRow ⟨l.toArray⟩ (grownCap w2 N 0 5)) 5 ((bytesRow ⟨l.toArray⟩ (grownCap w2 N 0 5)).size, (bytesRow ⟨l.toArray⟩ (grownCap w2 N 0 5)).size + 1))).drew).cell? ⟨w2.heap.size, j, none⟩ = some (.int .u8 (c.toNat : Int)) := by
      intro j c hc
      have hj : j < l.toArray.size := by simpa using (List.getElem?_eq_some_iff.1 hc).1
      have h1 := bytesRow_at ⟨l.toArray⟩ (grownCap w2 N 0 5) j hj
      have h2 := World.cell?_alloc_mark w2 (bytesRow ⟨l.toArray⟩ (grownCap w2 N 0 5)) 5 ((bytesRow ⟨l.toArray⟩ (grownCap w2 N 0 5)).size, (bytesRow ⟨l.toArray⟩ (grownCap w2 N 0 5)).size + 1) j
      have h3 : l.toArray[j] = c := by simpa using (List.getElem?_eq_some_iff.1 hc).2
      rw [World.cell?_drew, h2, h1]
      show some (Value.int .u8 ((l.toArray[j]).toNat : Int)) = _
      rw [h3]
    have hfr : Fr [] w ((w2.alloc (.cells (bytesRow ⟨l.toArray⟩ (grownCap w2 N 0 5)) 5 ((bytesRow ⟨l.toArray⟩ (grownCap w2 N 0 5)).size, (bytesRow ⟨l.toArray⟩ (grownCap w2 N 0 5)).size + 1))).drew) := (((hf1.trans hf2).alloc _).drew)
    generalize (w2.alloc (.cells (bytesRow ⟨l.toArray⟩ (grownCap w2 N 0 5)) 5 ((bytesRow ⟨l.toArray⟩ (grownCap w2 N 0 5)).size, (bytesRow ⟨l.toArray⟩ (grownCap w2 N 0 5)).size + 1))).drew = W3 at *
    generalize grownCap w2 N 0 5 = C at *
    have HB := Lib.hid hB
    clear hB hf1 hf2
    go_loopg [15, 46] N (fun gg x i wr => ∃ j : Nat, j + gg = N ∧ i = .int .i64 j ∧ x = .int .i64 (word (l.take j) : Nat) ∧ wr = W3)
    case atStart => exact ⟨0, by omega, rfl, rfl, rfl⟩
    case round =>
      obtain ⟨j, hj, rfl, rfl, rfl⟩ := hrel
      have Hj := Lib.hid hj
      by_cases hlt : j < N
      · obtain ⟨c, hc⟩ : ∃ c, l[j]? = some c := ⟨_, List.getElem?_eq_getElem (by have := HN.out; omega)⟩
        have c0 := HB.out j c hc
        have hcl := c.toNat_lt
        have hw := word_lt (l.take j)
        have hlen : (l.take j).length ≤ 3 := by rw [List.length_take]; omega
        have hw2 : word (l.take j) < 16777216 := Nat.lt_of_lt_of_le hw (Nat.pow_le_pow_right (by omega) hlen)
        have hsn : word (l.take (j + 1)) = 256 * word (l.take j) + c.toNat := by rw [List.take_add_one, hc]; exact word_snoc _ _
        have Hsn := Lib.hid hsn
        have hki : (j : Int) < (N : Int) := by omega
        clear hw hlen hsn hc hj
        generalize word (l.take j) = X at *
        generalize c.toNat = Y at *
        go_wp2
        go_roundg (N - (j + 1))
        case measure => have := Hj.out; omega
        case rel => refine ⟨j + 1, by have := Hj.out; omega, by go_num, by rw [show (X : Int) * 256 = ((256 * X : Nat) : Int) from by omega, bits_or_nat _ _ (by omega) (by omega), or_byte X Y hcl, Hsn.out], rfl⟩
      · have hjN : j = N := by omega
        have hki : ¬ (j : Int) < (N : Int) := by omega
        have hw : word (l.take j) = word l := by rw [hjN, ← HN.out, List.take_length]
        have Hw := Lib.hid hw
        clear hw hj hjN
        go_wp2
        go_ret2
        exact ⟨ret_tup (by rw [Hw.out]), hfr⟩
  · go_enter Try.func77, Try.ntmps77
    go_wp2_with (first
      | (go_at_call 47; go_must ((with_reducible refine Hc.out.mono ?_); rintro e w1 ⟨rfl, hf1⟩))
      | (go_at_call 62; go_must ((with_reducible refine (Hr.out _ hf1).mono ?_); rintro e w2 ⟨rfl, hf2⟩))
      | fail)
    have hB : ∀ (j : Nat) (c : UInt8), l[j]? = some c → ((w2.alloc (.cells (bytesRow ⟨l.toArray⟩ (grownCap w2 N 0 5)) 5 ((bytesRow ⟨l.toArray⟩ (grownCap w2 N 0 5)).size, (bytesRow ⟨l.toArray⟩ (grownCap w2 N 0 5)).size + 1))).drew).cell? ⟨w2.heap.size, j, none⟩ = some (.int .u8 (c.toNat : Int)) := by
      intro j c hc
      have hj : j < l.toArray.size := by simpa using (List.getElem?_eq_some_iff.1 hc).1
      have h1 := bytesRow_at ⟨l.toArray⟩ (grownCap w2 N 0 5) j hj
      have h2 := World.cell?_alloc_mark w2 (bytesRow ⟨l.toArray⟩ (grownCap w2 N 0 5)) 5 ((bytesRow ⟨l.toArray⟩ (grownCap w2 N 0 5)).size, (bytesRow ⟨l.toArray⟩ (grownCap w2 N 0 5)).size + 1) j
      have h3 : l.toArray[j] = c := by simpa using (List.getElem?_eq_some_iff.1 hc).2
      rw [World.cell?_drew, h2, h1]
      show some (Value.int .u8 ((l.toArray[j]).toNat : Int)) = _
      rw [h3]
    have hfr : Fr [] w ((w2.alloc (.cells (bytesRow ⟨l.toArray⟩ (grownCap w2 N 0 5)) 5 ((bytesRow ⟨l.toArray⟩ (grownCap w2 N 0 5)).size, (bytesRow ⟨l.toArray⟩ (grownCap w2 N 0 5)).size + 1))).drew) := (((hf1.trans hf2).alloc _).drew)
    generalize (w2.alloc (.cells (bytesRow ⟨l.toArray⟩ (grownCap w2 N 0 5)) 5 ((bytesRow ⟨l.toArray⟩ (grownCap w2 N 0 5)).size, (bytesRow ⟨l.toArray⟩ (grownCap w2 N 0 5)).size + 1))).drew = W3 at *
    generalize grownCap w2 N 0 5 = C at *
    have HB := Lib.hid hB
    clear hB hf1 hf2
    go_loopg [15, 46] N (fun gg x i wr => ∃ j : Nat, j + gg = N ∧ i = .int .i64 j ∧ x = .int .i64 (word (l.take j) : Nat) ∧ wr = W3)
    case atStart => exact ⟨0, by omega, rfl, rfl, rfl⟩
    case round =>
      obtain ⟨j, hj, rfl, rfl, rfl⟩ := hrel
      have Hj := Lib.hid hj
      by_cases hlt : j < N
      · obtain ⟨c, hc⟩ : ∃ c, l[j]? = some c := ⟨_, List.getElem?_eq_getElem (by have := HN.out; omega)⟩
        have c0 := HB.out j c hc
        have hcl := c.toNat_lt
        have hw := word_lt (l.take j)
        have hlen : (l.take j).length ≤ 3 := by rw [List.length_take]; omega
        have hw2 : word (l.take j) < 16777216 := Nat.lt_of_lt_of_le hw (Nat.pow_le_pow_right (by omega) hlen)
        have hsn : word (l.take (j + 1)) = 256 * word (l.take j) + c.toNat := by rw [List.take_add_one, hc]; exact word_snoc _ _
        have Hsn := Lib.hid hsn
        have hki : (j : Int) < (N : Int) := by omega
        clear hw hlen hsn hc hj
        generalize word (l.take j) = X at *
        generalize c.toNat = Y at *
        go_wp2
        go_roundg (N - (j + 1))
        case measure => have := Hj.out; omega
        case rel => refine ⟨j + 1, by have := Hj.out; omega, by go_num, by rw [show (X : Int) * 256 = ((256 * X : Nat) : Int) from by omega, bits_or_nat _ _ (by omega) (by omega), or_byte X Y hcl, Hsn.out], rfl⟩
      · have hjN : j = N := by omega
        have hki : ¬ (j : Int) < (N : Int) := by omega
        have hw : word (l.take j) = word l := by rw [hjN, ← HN.out, List.take_length]
        have Hw := Lib.hid hw
        clear hw hj hjN
        go_wp2
        go_ret2
        exact ⟨ret_tup (by rw [Hw.out]), hfr⟩
  · go_enter Try.func77, Try.ntmps77
    go_wp2_with (first
      | (go_at_call 47; go_must ((with_reducible refine Hc.out.mono ?_); rintro e w1 ⟨rfl, hf1⟩))
      | (go_at_call 62; go_must ((with_reducible refine (Hr.out _ hf1).mono ?_); rintro e w2 ⟨rfl, hf2⟩))
      | fail)
    have hB : ∀ (j : Nat) (c : UInt8), l[j]? = some c → ((w2.alloc (.cells (bytesRow ⟨l.toArray⟩ (grownCap w2 N 0 5)) 5 ((bytesRow ⟨l.toArray⟩ (grownCap w2 N 0 5)).size, (bytesRow ⟨l.toArray⟩ (grownCap w2 N 0 5)).size + 1))).drew).cell? ⟨w2.heap.size, j, none⟩ = some (.int .u8 (c.toNat : Int)) := by
      intro j c hc
      have hj : j < l.toArray.size := by simpa using (List.getElem?_eq_some_iff.1 hc).1
      have h1 := bytesRow_at ⟨l.toArray⟩ (grownCap w2 N 0 5) j hj
      have h2 := World.cell?_alloc_mark w2 (bytesRow ⟨l.toArray⟩ (grownCap w2 N 0 5)) 5 ((bytesRow ⟨l.toArray⟩ (grownCap w2 N 0 5)).size, (bytesRow ⟨l.toArray⟩ (grownCap w2 N 0 5)).size + 1) j
      have h3 : l.toArray[j] = c := by simpa using (List.getElem?_eq_some_iff.1 hc).2
      rw [World.cell?_drew, h2, h1]
      show some (Value.int .u8 ((l.toArray[j]).toNat : Int)) = _
      rw [h3]
    have hfr : Fr [] w ((w2.alloc (.cells (bytesRow ⟨l.toArray⟩ (grownCap w2 N 0 5)) 5 ((bytesRow ⟨l.toArray⟩ (grownCap w2 N 0 5)).size, (bytesRow ⟨l.toArray⟩ (grownCap w2 N 0 5)).size + 1))).drew) := (((hf1.trans hf2).alloc _).drew)
    generalize (w2.alloc (.cells (bytesRow ⟨l.toArray⟩ (grownCap w2 N 0 5)) 5 ((bytesRow ⟨l.toArray⟩ (grownCap w2 N 0 5)).size, (bytesRow ⟨l.toArray⟩ (grownCap w2 N 0 5)).size + 1))).drew = W3 at *
    generalize grownCap w2 N 0 5 = C at *
    have HB := Lib.hid hB
    clear hB hf1 hf2
    go_loopg [15, 46] N (fun gg x i wr => ∃ j : Nat, j + gg = N ∧ i = .int .i64 j ∧ x = .int .i64 (word (l.take j) : Nat) ∧ wr = W3)
    case atStart => exact ⟨0, by omega, rfl, rfl, rfl⟩
    case round =>
      obtain ⟨j, hj, rfl, rfl, rfl⟩ := hrel
      have Hj := Lib.hid hj
      by_cases hlt : j < N
      · obtain ⟨c, hc⟩ : ∃ c, l[j]? = some c := ⟨_, List.getElem?_eq_getElem (by have := HN.out; omega)⟩
        have c0 := HB.out j c hc
        have hcl := c.toNat_lt
        have hw := word_lt (l.take j)
        have hlen : (l.take j).length ≤ 3 := by rw [List.length_take]; omega
        have hw2 : word (l.take j) < 16777216 := Nat.lt_of_lt_of_le hw (Nat.pow_le_pow_right (by omega) hlen)
        have hsn : word (l.take (j + 1)) = 256 * word (l.take j) + c.toNat := by rw [List.take_add_one, hc]; exact word_snoc _ _
        have Hsn := Lib.hid hsn
        have hki : (j : Int) < (N : Int) := by omega
        clear hw hlen hsn hc hj
        generalize word (l.take j) = X at *
        generalize c.toNat = Y at *
        go_wp2
        go_roundg (N - (j + 1))
        case measure => have := Hj.out; omega
        case rel => refine ⟨j + 1, by have := Hj.out; omega, by go_num, by rw [show (X : Int) * 256 = ((256 * X : Nat) : Int) from by omega, bits_or_nat _ _ (by omega) (by omega), or_byte X Y hcl, Hsn.out], rfl⟩
      · have hjN : j = N := by omega
        have hki : ¬ (j : Int) < (N : Int) := by omega
        have hw : word (l.take j) = word l := by rw [hjN, ← HN.out, List.take_length]
        have Hw := Lib.hid hw
        clear hw hj hjN
        go_wp2
        go_ret2
        exact ⟨ret_tup (by rw [Hw.out]), hfr⟩
theorem rdR_len {st : St} {t : List Pg} {a k r : Int} (hk : k = 1 ∨ k = 2 ∨ k = 4) : (rdR st t a k r).1.length ≤ 4 := by
  unfold rdR
  split
  · simp
  · split
    · simp
    · split
      · simp
        omega
      · simp
theorem Load_any (b p F m cap : Nat) (st : St) (A : Option Addr) (t : List Pg) (a k r : Int) (w : World) (ht : Tb w b (.slice A m cap) t) (h : MemAt w p F st) (ha : a ≤ 9223372036854775807) (hbw : b < w.heap.size) :
    Calls Try.prog 77 #[ptr p, .slice A m cap, .int .i64 a, .int .i64 k, .int .i64 r] w fun e w' => e = .returned (.tuple #[.int .i64 (ldR st t a k r).1, .int .i64 (ldR st t a k r).2]) ∧ Fr [] w w' := by
  cases hT : okT st.n t with
  | false =>
    have e0 : ldR st t a k r = (0, 84) := by unfold ldR; rw [if_pos hT]
    rw [e0]
    exact Load_no b p F m cap st A t a k r w ht h hT
  | true =>
    by_cases hk : k = 1 ∨ k = 2 ∨ k = 4
    · have e0 : ldR st t a k r = (((word (rdR st t a k r).1 : Nat) : Int), (rdR st t a k r).2) := by unfold ldR; rw [if_neg (by rw [hT]; simp), if_neg (by omega)]
      rw [e0]
      exact Load_main b p F m cap st A t a k r w ht h hT hk ha hbw _ _ rfl (rdR_len hk)
    · have e0 : ldR st t a k r = (0, 80) := by unfold ldR; rw [if_neg (by rw [hT]; simp), if_pos (by omega)]
      rw [e0]
      exact Load_size b p F m cap st A t a k r w ht h hT (by omega)
end Go.Proofs.Ytonongaakieciaa

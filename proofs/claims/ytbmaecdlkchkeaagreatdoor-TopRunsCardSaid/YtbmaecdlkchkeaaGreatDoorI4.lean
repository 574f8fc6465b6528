/- Instructions: Encode, of the program; the tests tied to the plain ones. -/
import Derived.Test.YtbmaecdlkchkeaaGreatDoorI3
import Derived.Test.YtbmaecdlkchkeaaGreatDoorLb
namespace Go.Proofs.YtbmaecdlkchkeaaGreatDoor
open Go.RowKit
set_option linter.unusedVariables false
set_option linter.unusedSimpArgs false
set_option maxRecDepth 100000
theorem fits_eq (is : Bool) (n lo hi : Int) : fitsB is n lo hi = fitsL is n lo hi := by
  unfold fitsB fitsL
  cases is <;> simp
theorem form_has : ∀ k, k < 30 → hasC (fm k) 97 = (fmL k).contains 97 ∧ hasC (fm k) 98 = (fmL k).contains 98 ∧ hasC (fm k) 115 = (fmL k).contains 115 ∧ hasU (fm k) = ((fmL k).contains 117 || (fmL k).contains 115) := by decide
theorem okI_eq (i : In) {k : Nat} (hk : k < 30) : okI i k = okL i k := by
  obtain ⟨h1, h2, h3, h4⟩ := form_has k hk
  unfold okI okL
  rw [h1, h2, h3, h4, fits_eq, fits_eq, fits_eq]
def bs4 (n0 n1 n2 n3 : Int) : ByteArray := [n0, n1, n2, n3].foldl (fun r n => r.push (UInt8.ofNat n.toNat)) ByteArray.empty
theorem run_str4 {w : World} {g : Nat} {n0 n1 n2 n3 : Int} (hb : Blk w g 5 #[.int .u8 n0, .int .u8 n1, .int .u8 n2, .int .u8 n3]) : (convert 64 9 (.slice (some ⟨g, 0, none⟩) 4 4)).run Tryz.prog w = .ok (.string (bs4 n0 n1 n2 n3)) w := by
  rw [run_convert_bytes_string w 64 9 5 _ 4 4 Tryz.underlying64 Tryz.underlying5 Tryz.underlying9]
  refine run_bytesToString w _ 4 4 [n0, n1, n2, n3] ?_
  refine run_loadCells_list w _ [Value.int .u8 n0, Value.int .u8 n1, Value.int .u8 n2, Value.int .u8 n3] ?_
  intro j v h
  match j, h with
  | 0, h => cases h; exact hb.cell 0
  | 1, h => cases h; exact hb.cell 1
  | 2, h => cases h; exact hb.cell 2
  | 3, h => cases h; exact hb.cell 3
  | n + 4, h => simp at h
theorem or4 (a b : Nat) (ha : a < 16) (hb : b < 16) : bits .or .i64 (16 * (a : Int)) (b : Int) = ((16 * a + b : Nat) : Int) := by
  have h1 : 16 * (a : Int) = ((16 * a : Nat) : Int) := by omega
  have h2 : 16 * a ||| b = 16 * a + b := (Nat.two_pow_add_eq_or_of_lt (i := 4) (by omega) a).symm
  have h4 : ∀ x y : Nat, x < 256 → y < 256 → x ||| y < 256 → bits .or .i64 (x : Int) (y : Int) = ((x ||| y : Nat) : Int) := by
    intro x y hx hy hxy
    show IntKind.i64.wrap (((BitVec.ofInt 64 (x : Int) ||| BitVec.ofInt 64 (y : Int)).toNat : Nat) : Int) = _
    rw [BitVec.toNat_or, BitVec.ofInt_natCast, BitVec.ofInt_natCast, BitVec.toNat_ofNat, BitVec.toNat_ofNat, Nat.mod_eq_of_lt (by omega), Nat.mod_eq_of_lt (by omega)]
    exact IntWalk.i64_in _ (by omega)
  rw [h1, h4 _ _ (by omega) (by omega) (by rw [h2]; omega), h2]
def encS (i : In) : ByteArray := ⟨(encL i).toArray⟩
theorem encS_of (k a b : Nat) (m : Int) (hk : k < 30) (ha : a < 16) (hb : b < 16) : bs4 (k : Int) (bits .or .i64 (wrap64 ((a : Int) * 16)) (b : Int) % 256) (m / 256 % 256) (m % 256) = encS ⟨k, a, b, m⟩ := by
  have e1 : wrap64 ((a : Int) * 16) = 16 * (a : Int) := by
    unfold wrap64
    omega
  rw [e1, or4 a b ha hb]
  have h1 : (m / 256 % 256).toNat = (m % 65536).toNat / 256 % 256 := by omega
  have h2 : (m % 256).toNat = (m % 65536).toNat % 256 := by omega
  have h3 : (((16 * a + b : Nat) : Int) % 256).toNat = (16 * (a : Int) + (b : Int)).toNat % 256 := by omega
  have h4 : ((k : Int)).toNat = k % 256 := by omega
  have h5 : ((k : Int)).toNat % 256 = k % 256 := by omega
  have e0 : ∀ c0 c1 c2 c3 : Int, bs4 c0 c1 c2 c3 = ⟨#[UInt8.ofNat c0.toNat, UInt8.ofNat c1.toNat, UInt8.ofNat c2.toNat, UInt8.ofNat c3.toNat]⟩ := fun _ _ _ _ => rfl
  rw [e0, h1, h2, h3, h4]
  unfold encS encL byte
  rw [h5]
theorem Encode_bad (i : In) (k : Nat) (hk : k < 30) (hop : i.op = (k : Int)) (hno : okL i k = false) (w : World) : Calls Tryz.prog 27 #[i.v] w fun e w' => e = .returned (.tuple #[.string ⟨#[]⟩, .int .i64 90]) ∧ Fr [] w w' := by
  have HC := Lib.hid (fun W => Check_in i k hk hop W)
  rw [okI_eq i hk, hno] at HC
  obtain ⟨op, a, b, m⟩ := i
  simp only [Bool.false_eq_true, if_false] at HC
  have HB0 := Lib.hid (Blk.new w 55 #[.int .i64 op, .int .i64 a, .int .i64 b, .int .i64 m])
  have H0 : Hid (Fr [] w (w.alloc (.cells #[.int .i64 op, .int .i64 a, .int .i64 b, .int .i64 m] 55))) := Lib.hid ((Fr.refl [] w).alloc _)
  clear hno hop hk
  go_enter Tryz.func27, Tryz.ntmps27
  go_wp2_with (first
    | (go_at_call 26; refine (HC.out _).mono ?_; rintro e w1 ⟨rfl, hf⟩; have H1 := Lib.hid (H0.out.trans hf); clear hf)
    | fail)
  all_goals
    exact bodyPost_ret (v := .tuple #[.string ⟨#[]⟩, .int .i64 90]) (results_tmp2 Tryz.results27 _ _ _) rfl ⟨rfl, H1.out⟩
set_option maxHeartbeats 8000000 in
theorem Encode_good (i : In) (k : Nat) (hk : k < 30) (hop : i.op = (k : Int)) (hyes : okL i k = true) (w : World) : Calls Tryz.prog 27 #[i.v] w fun e w' => e = .returned (.tuple #[.string (encS i), .int .i64 0]) ∧ Fr [] w w' := by
  have HC := Lib.hid (fun W => Check_in i k hk hop W)
  rw [okI_eq i hk, hyes] at HC
  obtain ⟨op, a, b, m⟩ := i
  simp only [if_true] at HC
  have HB0 := Lib.hid (Blk.new w 55 #[.int .i64 op, .int .i64 a, .int .i64 b, .int .i64 m])
  have H0 : Hid (Fr [] w (w.alloc (.cells #[.int .i64 op, .int .i64 a, .int .i64 b, .int .i64 m] 55))) := Lib.hid ((Fr.refl [] w).alloc _)
  go_enter Tryz.func27, Tryz.ntmps27
  go_wp2_with (first
    | (go_at_call 26; refine (HC.out _).mono ?_; rintro e w1 ⟨rfl, hf⟩; have H1 := Lib.hid (H0.out.trans hf); have HB1 := Lib.hid (HB0.out.fr hf (by simp)); clear hf; have c0 : w1.cell? ⟨w.heap.size, 0, none⟩ = some (.int .i64 op) := HB1.out.cell 0; have c1 : w1.cell? ⟨w.heap.size, 1, none⟩ = some (.int .i64 a) := HB1.out.cell 1; have c2 : w1.cell? ⟨w.heap.size, 2, none⟩ = some (.int .i64 b) := HB1.out.cell 2; have c3 : w1.cell? ⟨w.heap.size, 3, none⟩ = some (.int .i64 m) := HB1.out.cell 3)
    | fail)
  rw [run_str4 (Blk.new w1 5 _)]
  have H2 := Lib.hid (H1.out.alloc (.cells #[.int .u8 (k : Int), .int .u8 (bits .or .i64 (wrap64 (a * 16)) b % 256), .int .u8 (m / 256 % 256), .int .u8 (m % 256)] 5))
  have hab := (ok_bounds hk hyes)
  obtain ⟨⟨p1, p2⟩, ⟨p3, p4⟩, -⟩ := hab
  simp only at p1 p2 p3 p4 hop
  obtain ⟨an, rfl⟩ := Int.eq_ofNat_of_zero_le p1
  obtain ⟨bn, rfl⟩ := Int.eq_ofNat_of_zero_le p3
  have hE := encS_of k an bn m hk (by omega) (by omega)
  subst hop
  rw [hE]
  go_wp2_with fail
  all_goals
    exact bodyPost_ret (v := .tuple #[.string (encS ⟨k, an, bn, m⟩), .int .i64 0]) (results_tmp2 Tryz.results27 _ _ _) rfl ⟨rfl, H2.out⟩
end Go.Proofs.YtbmaecdlkchkeaaGreatDoor

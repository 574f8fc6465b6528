/- The document's instructions: Encode; a number's four bytes. -/
import Derived.Test.YtjijhjdemkgpgaaGreatDoorZ1
import Derived.Test.YtjijhjdemkgpgaaGreatDoorI8
namespace Go.Proofs.YtjijhjdemkgpgaaGreatDoor
open Go.RowKit
set_option linter.unusedVariables false
set_option linter.unusedSimpArgs false
set_option maxRecDepth 100000
theorem rCheck_no (i : In) (h : i.op < 0 ∨ 30 ≤ i.op) (w : World) : Calls Tryz.prog 16 #[i.v] w fun e w' => e = .returned (.int .i64 90) ∧ Fr [] w w' := by
  obtain ⟨op, a, b, m⟩ := i
  have HN := Lib.hid (fun W => rName_no op h W)
  have HB0 := Lib.hid (Blk.new w 23 #[.int .i64 op, .int .i64 a, .int .i64 b, .int .i64 m])
  have H0 : Hid (Fr [] w (w.alloc (.cells #[.int .i64 op, .int .i64 a, .int .i64 b, .int .i64 m] 23))) := Lib.hid ((Fr.refl [] w).alloc _)
  clear h
  go_enter Tryz.func16, Tryz.ntmps16
  go_wp2_with (first
    | (go_at_call 26; refine (HN.out _).mono ?_; rintro e w1 ⟨rfl, hf⟩; have H1 := Lib.hid (H0.out.trans hf); clear hf)
    | fail)
  go_ret
  exact ⟨rfl, H1.out⟩
theorem rCheck_any (i : In) (w : World) : Calls Tryz.prog 16 #[i.v] w fun e w' => e = .returned (.int .i64 (chkI i)) ∧ Fr [] w w' := by
  unfold chkI
  by_cases h : i.op < 0 ∨ 30 ≤ i.op
  · rw [if_pos h]
    exact rCheck_no i h w
  · rw [if_neg h]
    exact rCheck_in i i.op.toNat (by omega) (by omega) w
theorem and255 (x : Int) : bits .and .i64 x 255 % 256 = x % 256 := by
  have h : bits .and .i64 x 255 = x % 256 := by
    show IntKind.i64.wrap (((BitVec.ofInt 64 x &&& BitVec.ofInt 64 255).toNat : Nat) : Int) = _
    have e : (BitVec.ofInt 64 255).toNat = 2 ^ 8 - 1 := by decide
    rw [BitVec.toNat_and, e, Nat.and_two_pow_sub_one_eq_mod, BitVec.toNat_ofInt]
    have : (((x % (2 ^ 64 : Nat)).toNat % 2 ^ 8 : Nat) : Int) = x % 256 := by omega
    rw [this]
    exact IntWalk.i64_in _ (by omega)
  rw [h]
  omega
def encR (i : In) : ByteArray := bs4 (i.op % 256) (wrap64 (wrap64 (16 * i.a) + i.b) % 256) (bits .and .i64 (i.m / 256) 255 % 256) (bits .and .i64 i.m 255 % 256)
theorem encR_of {i : In} {k : Nat} (hk : k < 30) (hop : i.op = (k : Int)) (h : okL i k = true) : encR i = encS i := by
  obtain ⟨⟨p1, p2⟩, ⟨p3, p4⟩, -⟩ := ok_bounds hk h
  obtain ⟨op, a, b, m⟩ := i
  simp only at p1 p2 p3 p4 hop
  subst hop
  have e1 : wrap64 (wrap64 (16 * a) + b) = 16 * a + b := by
    unfold wrap64
    omega
  have e0 : ∀ c0 c1 c2 c3 : Int, bs4 c0 c1 c2 c3 = ⟨#[UInt8.ofNat c0.toNat, UInt8.ofNat c1.toNat, UInt8.ofNat c2.toNat, UInt8.ofNat c3.toNat]⟩ := fun _ _ _ _ => rfl
  unfold encR encS encL byte
  simp only
  rw [e0, and255, and255, e1]
  have h1 : (m / 256 % 256).toNat = (m % 65536).toNat / 256 % 256 := by omega
  have h2 : (m % 256).toNat = (m % 65536).toNat % 256 := by omega
  have h3 : ((16 * a + b) % 256).toNat = (16 * a + b).toNat % 256 := by omega
  have h4 : ((k : Int) % 256).toNat = (k : Int).toNat % 256 := by omega
  rw [h1, h2, h3, h4]
set_option maxHeartbeats 8000000 in
theorem rEncode_bad (i : In) (hno : chkI i = 90) (w : World) : Calls Tryz.prog 7 #[i.v] w fun e w' => e = .returned (.tuple #[.string ⟨#[]⟩, .int .i64 90]) ∧ Fr [] w w' := by
  have HC := Lib.hid (fun W => rCheck_any i W)
  rw [hno] at HC
  obtain ⟨op, a, b, m⟩ := i
  have HB0 := Lib.hid (Blk.new w 23 #[.int .i64 op, .int .i64 a, .int .i64 b, .int .i64 m])
  have H0 : Hid (Fr [] w (w.alloc (.cells #[.int .i64 op, .int .i64 a, .int .i64 b, .int .i64 m] 23))) := Lib.hid ((Fr.refl [] w).alloc _)
  clear hno
  go_enter Tryz.func7, Tryz.ntmps7
  go_wp2_with (first
    | (go_at_call 16; refine (HC.out _).mono ?_; rintro e w1 ⟨rfl, hf⟩; have H1 := Lib.hid (H0.out.trans hf); clear hf)
    | fail)
  all_goals
    exact bodyPost_ret (v := .tuple #[.string ⟨#[]⟩, .int .i64 90]) (results_tmp2 Tryz.results7 _ _ _) rfl ⟨rfl, H1.out⟩
set_option maxHeartbeats 8000000 in
theorem rEncode_good (i : In) (k : Nat) (hk : k < 30) (hop : i.op = (k : Int)) (hyes : okL i k = true) (w : World) : Calls Tryz.prog 7 #[i.v] w fun e w' => e = .returned (.tuple #[.string (encS i), .int .i64 0]) ∧ Fr [] w w' := by
  have HC := Lib.hid (fun W => rCheck_in i k hk hop W)
  rw [okI_eq i hk, hyes] at HC
  have hE := encR_of hk hop hyes
  rw [← hE]
  obtain ⟨op, a, b, m⟩ := i
  simp only [if_true] at HC
  have HB0 := Lib.hid (Blk.new w 23 #[.int .i64 op, .int .i64 a, .int .i64 b, .int .i64 m])
  have H0 : Hid (Fr [] w (w.alloc (.cells #[.int .i64 op, .int .i64 a, .int .i64 b, .int .i64 m] 23))) := Lib.hid ((Fr.refl [] w).alloc _)
  clear hyes hop hk hE
  go_enter Tryz.func7, Tryz.ntmps7
  go_wp2_with (first
    | (go_at_call 16; refine (HC.out _).mono ?_; rintro e w1 ⟨rfl, hf⟩; have H1 := Lib.hid (H0.out.trans hf); have HB1 := Lib.hid (HB0.out.fr hf (by simp)); clear hf; have c0 : w1.cell? ⟨w.heap.size, 0, none⟩ = some (.int .i64 op) := HB1.out.cell 0; have c1 : w1.cell? ⟨w.heap.size, 1, none⟩ = some (.int .i64 a) := HB1.out.cell 1; have c2 : w1.cell? ⟨w.heap.size, 2, none⟩ = some (.int .i64 b) := HB1.out.cell 2; have c3 : w1.cell? ⟨w.heap.size, 3, none⟩ = some (.int .i64 m) := HB1.out.cell 3)
    | fail)
  rw [run_str4 (Blk.new w1 5 _)]
  have H2 := Lib.hid (H1.out.alloc (.cells #[.int .u8 (op % 256), .int .u8 (wrap64 (wrap64 (16 * a) + b) % 256), .int .u8 (bits .and .i64 (m / 256) 255 % 256), .int .u8 (bits .and .i64 m 255 % 256)] 5))
  go_wp2_with fail
  all_goals
    exact bodyPost_ret (v := .tuple #[.string (encR ⟨op, a, b, m⟩), .int .i64 0]) (results_tmp2 Tryz.results7 _ _ _) rfl ⟨rfl, H2.out⟩
end Go.Proofs.YtjijhjdemkgpgaaGreatDoor

/- The document's Text and Print. (Printed by genz4.py.) -/
import Derived.Test.YtjijhjdemkgpgaaGreatDoorZ3
import Derived.Test.YtjijhjdemkgpgaaGreatDoorI7
import Derived.Test.YtjijhjdemkgpgaaGreatDoorI23
namespace Go.Proofs.YtjijhjdemkgpgaaGreatDoor
open Go.RowKit
set_option linter.unusedVariables false
set_option linter.unusedSimpArgs false
set_option maxRecDepth 100000
set_option maxHeartbeats 8000000 in
theorem rText_any (i : In) (k : Nat) (hk : k < 30) (hop : i.op = (k : Int)) (hyes : okL i k = true) (w : World) : Calls Tryz.prog 23 #[i.v, .string ⟨#[]⟩] w fun e w' => e = .returned (.string ⟨(textL i [] k).toArray⟩) ∧ Fr [] w w' := by
  have hbd := ok_bounds hk hyes
  obtain ⟨op, a, b, m⟩ := i
  simp only at hbd hop
  subst hop
  have HBD := Lib.hid hbd
  have HK := Lib.hid hk
  have HN := Lib.hid (fun W => rName_any k hk W)
  have HFo := Lib.hid (fun W => rForm_any k hk W)
  have HB0 := Lib.hid (Blk.new w 23 #[.int .i64 k, .int .i64 a, .int .i64 b, .int .i64 m])
  have H0 : Hid (Fr [] w (w.alloc (.cells #[.int .i64 k, .int .i64 a, .int .i64 b, .int .i64 m] 23))) := Lib.hid ((Fr.refl [] w).alloc _)
  clear hyes hk hbd
  have HF8 := Lib.hid (fm_small k HK.out).1
  have HN8 : Hid ((nm k).size ≤ 8) := Lib.hid (by
    have h1 : ∀ k, k < 30 → (nm k).size ≤ 8 := by decide
    exact h1 k HK.out)
  have HT0 : Hid (nm k = txS ⟨k, a, b, m⟩ k 0) := Lib.hid (by unfold nm txS nmL; simp)
  have HTn : Hid (∀ p (h : p < (fm k).size), (txS ⟨k, a, b, m⟩ k (p + 1)).data.toList = (txS ⟨k, a, b, m⟩ k p).data.toList ++ 32 :: fieldT ⟨k, a, b, m⟩ [] ((fm k)[p]'h)) := Lib.hid (fun p h => by
    have hg : (fmL k)[p]? = some ((fm k)[p]'h) := List.getElem?_eq_getElem (by exact h)
    unfold txS
    simp only [List.toList_toArray]
    rw [List.take_add_one, hg]
    simp)
  have HTe : Hid (txS ⟨k, a, b, m⟩ k (fm k).size = ⟨(textL ⟨k, a, b, m⟩ [] k).toArray⟩) := Lib.hid (by
    unfold txS textL
    rw [List.take_of_length_le (by exact Nat.le_refl _)])
  generalize hTx : txS ⟨k, a, b, m⟩ k = T at *
  generalize (⟨(textL ⟨k, a, b, m⟩ [] k).toArray⟩ : ByteArray) = TE at *
  generalize nm k = N at *
  generalize fm k = F at *
  go_enter Tryz.func23, Tryz.ntmps23
  go_wp2_with (first
    | (go_at_call 26; refine (HN.out _).mono ?_; rintro e w1 ⟨rfl, hf⟩; have H1 := Lib.hid (H0.out.trans hf); have HB1 := Lib.hid (HB0.out.fr hf (by simp)); clear hf; have c0 : w1.cell? ⟨w.heap.size, 0, none⟩ = some (.int .i64 (k : Int)) := HB1.out.cell 0)
    | (go_at_call 28; refine (HFo.out _).mono ?_; rintro e w2 ⟨rfl, rfl⟩)
    | fail)
  clear c0
  go_loopg [5, 7] F.size (fun gg v5 v7 w' => ∃ p : Nat, p + gg = F.size ∧ v7 = .int .i64 (p : Int) ∧ v5 = .string (T p) ∧ (T p).size ≤ 8 + 30 * p ∧ Fr [] w1 w')
  case atStart => exact ⟨0, by omega, rfl, by rw [← HT0.out], by rw [← HT0.out]; have := HN8.out; omega, Fr.refl _ _⟩
  case round =>
    obtain ⟨p, hp, rfl, rfl, hts, hf⟩ := hrel
    have Hts := Lib.hid hts
    have Hp := Lib.hid hp
    have Hf := Lib.hid hf
    by_cases hlt : p < F.size
    · have hlt1 : (p : Int) < (F.size : Int) := by omega
      have hp0 : (0 : Int) ≤ (p : Int) := by omega
      have hwk : IntKind.i64.wrap ((p : Int) + 1) = (p : Int) + 1 := IntWalk.i64_in _ (by have := HF8.out; omega)
      have HB3 := HB1.out.fr hf (by simp)
      have b1 : wr.cell? ⟨w.heap.size, 1, none⟩ = some (.int .i64 a) := HB3.cell 1
      have b2 : wr.cell? ⟨w.heap.size, 2, none⟩ = some (.int .i64 b) := HB3.cell 2
      have b3 : wr.cell? ⟨w.heap.size, 3, none⟩ = some (.int .i64 m) := HB3.cell 3
      have HT := Lib.hid (HTn.out p hlt)
      clear hp hf hts HB3
      obtain ⟨d, hd⟩ : ∃ d, (F[p]'hlt) = d := ⟨_, rfl⟩
      rw [hd] at HT
      have hdc : ∀ h, (F[p]'h) = d := fun _ => hd
      clear hd
      by_cases q1 : d.toNat = 97
      · have q1' : ((d.toNat : Nat) : Int) = 97 := by omega
        have qd : d = 97 := UInt8.toNat_inj.1 (by rw [q1]; rfl)
        have hl1 := Lib.itoa_length_le a (by have := HBD.out.1; omega) (by have := HBD.out.1; omega)
        have l1 : ¬ 9223372036854775807 < 2 + (Lib.itoa a).length := by omega
        have l2 : ¬ 9223372036854775807 < (T p).size + (2 + (Lib.itoa a).length) := by have := Hts.out; have := Hp.out; have := HF8.out; omega
        have hE : T p ++ ((⟨#[32, 114]⟩ : ByteArray) ++ ⟨(Lib.itoa a).toArray⟩) = T (p + 1) := cat_of (pre := [32, 114]) (by rw [HT.out]; simp [fieldT, qd])
        have hZ : (T (p + 1)).size ≤ 8 + 30 * (p + 1) := by
          have h1 : (T (p + 1)).size = (T p).size + (2 + (Lib.itoa a).length) := by
            rw [← hE, ByteArray.size_append, ByteArray.size_append]
            rfl
          have := Hts.out
          omega
        have HE := Lib.hid hE
        have HZ := Lib.hid hZ
        clear hE hZ hl1
        go_wp2_with (first
          | (go_at_call 45; refine (rDigits_any a (by have := HBD.out.1; omega) (by have := HBD.out.1; omega) _).mono ?_; rintro e W4 ⟨rfl, hf4⟩; have Hf4 := Lib.hid hf4; clear hf4)
          | fail)
        go_roundg (F.size - (p + 1))
        case measure => have := Hp.out; omega
        case rel => exact ⟨p + 1, by have := Hp.out; omega, by go_num, by rw [HE.out], HZ.out, Hf.out.trans Hf4.out⟩
      · by_cases q2 : d.toNat = 98
        · have q2' : ((d.toNat : Nat) : Int) = 98 := by omega
          have qd : d = 98 := UInt8.toNat_inj.1 (by rw [q2]; rfl)
          have hl1 := Lib.itoa_length_le b (by have := HBD.out.2.1; omega) (by have := HBD.out.2.1; omega)
          have l1 : ¬ 9223372036854775807 < 2 + (Lib.itoa b).length := by omega
          have l2 : ¬ 9223372036854775807 < (T p).size + (2 + (Lib.itoa b).length) := by have := Hts.out; have := Hp.out; have := HF8.out; omega
          have hE : T p ++ ((⟨#[32, 114]⟩ : ByteArray) ++ ⟨(Lib.itoa b).toArray⟩) = T (p + 1) := cat_of (pre := [32, 114]) (by rw [HT.out]; simp [fieldT, qd])
          have hZ : (T (p + 1)).size ≤ 8 + 30 * (p + 1) := by
            have h1 : (T (p + 1)).size = (T p).size + (2 + (Lib.itoa b).length) := by
              rw [← hE, ByteArray.size_append, ByteArray.size_append]
              rfl
            have := Hts.out
            omega
          have HE := Lib.hid hE
          have HZ := Lib.hid hZ
          clear hE hZ hl1
          go_wp2_with (first
            | (go_at_call 45; refine (rDigits_any b (by have := HBD.out.2.1; omega) (by have := HBD.out.2.1; omega) _).mono ?_; rintro e W4 ⟨rfl, hf4⟩; have Hf4 := Lib.hid hf4; clear hf4)
            | fail)
          go_roundg (F.size - (p + 1))
          case measure => have := Hp.out; omega
          case rel => exact ⟨p + 1, by have := Hp.out; omega, by go_num, by rw [HE.out], HZ.out, Hf.out.trans Hf4.out⟩
        · have q3 : ¬ ((d.toNat : Nat) : Int) = 97 := by omega
          have q4 : ¬ ((d.toNat : Nat) : Int) = 98 := by omega
          have q5 : (((d.toNat : Nat) : Int) == 97) = false := beq_eq_false_iff_ne.2 q3
          have q6 : (((d.toNat : Nat) : Int) == 98) = false := beq_eq_false_iff_ne.2 q4
          have e1 : ¬ d = 97 := fun e => q1 (by rw [e]; rfl)
          have e2 : ¬ d = 98 := fun e => q2 (by rw [e]; rfl)
          have hl1 := Lib.itoa_length_le m (by have := HBD.out.2.2; split at this <;> omega) (by have := HBD.out.2.2; split at this <;> omega)
          have l1 : ¬ 9223372036854775807 < 1 + (Lib.itoa m).length := by omega
          have l2 : ¬ 9223372036854775807 < (T p).size + (1 + (Lib.itoa m).length) := by have := Hts.out; have := Hp.out; have := HF8.out; omega
          have hE : T p ++ ((⟨#[32]⟩ : ByteArray) ++ ⟨(Lib.itoa m).toArray⟩) = T (p + 1) := cat_of (pre := [32]) (by rw [HT.out]; simp [fieldT, e1, e2])
          have hZ : (T (p + 1)).size ≤ 8 + 30 * (p + 1) := by
            have h1 : (T (p + 1)).size = (T p).size + (1 + (Lib.itoa m).length) := by
              rw [← hE, ByteArray.size_append, ByteArray.size_append]
              rfl
            have := Hts.out
            omega
          have HE := Lib.hid hE
          have HZ := Lib.hid hZ
          clear hE hZ hl1
          go_wp2_with (first
            | (go_at_call 45; refine (rDigits_any m (by have := HBD.out.2.2; split at this <;> omega) (by have := HBD.out.2.2; split at this <;> omega) _).mono ?_; rintro e W4 ⟨rfl, hf4⟩; have Hf4 := Lib.hid hf4; clear hf4)
            | fail)
          go_roundg (F.size - (p + 1))
          case measure => have := Hp.out; omega
          case rel => exact ⟨p + 1, by have := Hp.out; omega, by go_num, by rw [HE.out], HZ.out, Hf.out.trans Hf4.out⟩
    · have hlt1 : ¬ (p : Int) < (F.size : Int) := by omega
      have hpe : p = F.size := by omega
      have HPE := Lib.hid hpe
      clear hp hf hts hpe
      go_wp2_with fail
      go_ret
      exact ⟨by rw [← HTe.out, ← HPE.out]; rfl, H1.out.trans Hf.out⟩
set_option maxHeartbeats 4000000 in
theorem rPrint_any (i : In) (w : World) : Calls Tryz.prog 9 #[i.v] w fun e w' => e = .returned (.tuple #[.string (if mayB i = true then ⟨(textL i [] i.op.toNat).toArray⟩ else ⟨#[]⟩), .int .i64 (if mayB i = true then 0 else 90)]) ∧ Fr [] w w' := by
  have HC := Lib.hid (fun W => rCheck_any i W)
  by_cases hm : mayB i = true
  · obtain ⟨k, hk, hop, hok⟩ := (mayB_iff i).1 hm
    have HT := Lib.hid (fun W => rText_any i k hk hop hok W)
    have e0 : chkI i = 0 := by
      unfold chkI
      rw [if_neg (by omega), show i.op.toNat = k by omega, okI_eq i hk, hok]
      rfl
    rw [if_pos hm, if_pos hm, show i.op.toNat = k by omega]
    rw [e0] at HC
    generalize (⟨(textL i [] k).toArray⟩ : ByteArray) = TE at *
    obtain ⟨op, a, b, m⟩ := i
    have HB0 := Lib.hid (Blk.new w 23 #[.int .i64 op, .int .i64 a, .int .i64 b, .int .i64 m])
    have H0 : Hid (Fr [] w (w.alloc (.cells #[.int .i64 op, .int .i64 a, .int .i64 b, .int .i64 m] 23))) := Lib.hid ((Fr.refl [] w).alloc _)
    clear hm hop hok e0
    go_enter Tryz.func9, Tryz.ntmps9
    go_wp2_with (first
      | (go_at_call 16; refine (HC.out _).mono ?_; rintro e w1 ⟨rfl, hf⟩; have H1 := Lib.hid (H0.out.trans hf); have HB1 := Lib.hid (HB0.out.fr hf (by simp)); clear hf; have c0 : w1.cell? ⟨w.heap.size, 0, none⟩ = some (.int .i64 op) := HB1.out.cell 0; have c1 : w1.cell? ⟨w.heap.size, 1, none⟩ = some (.int .i64 a) := HB1.out.cell 1; have c2 : w1.cell? ⟨w.heap.size, 2, none⟩ = some (.int .i64 b) := HB1.out.cell 2; have c3 : w1.cell? ⟨w.heap.size, 3, none⟩ = some (.int .i64 m) := HB1.out.cell 3)
      | (go_at_call 23; refine (HT.out _).mono ?_; rintro e w2 ⟨rfl, hf⟩; have H2 := Lib.hid (H1.out.trans hf); clear hf)
      | fail)
    all_goals
      exact bodyPost_ret (v := .tuple #[.string TE, .int .i64 0]) (results_tmp2 Tryz.results9 _ _ _) rfl ⟨rfl, H2.out⟩
  · have e0 : chkI i = 90 := by
      unfold chkI
      by_cases h : i.op < 0 ∨ 30 ≤ i.op
      · rw [if_pos h]
      · rw [if_neg h, okI_eq i (by omega)]
        by_cases ho : okL i i.op.toNat = true
        · exact absurd ((mayB_iff i).2 ⟨i.op.toNat, by omega, by omega, ho⟩) hm
        · rw [if_neg ho]
    rw [if_neg hm, if_neg hm]
    rw [e0] at HC
    obtain ⟨op, a, b, m⟩ := i
    have HB0 := Lib.hid (Blk.new w 23 #[.int .i64 op, .int .i64 a, .int .i64 b, .int .i64 m])
    have H0 : Hid (Fr [] w (w.alloc (.cells #[.int .i64 op, .int .i64 a, .int .i64 b, .int .i64 m] 23))) := Lib.hid ((Fr.refl [] w).alloc _)
    clear hm e0
    go_enter Tryz.func9, Tryz.ntmps9
    go_wp2_with (first
      | (go_at_call 16; refine (HC.out _).mono ?_; rintro e w1 ⟨rfl, hf⟩; have H1 := Lib.hid (H0.out.trans hf); clear hf)
      | fail)
    all_goals
      exact bodyPost_ret (v := .tuple #[.string ⟨#[]⟩, .int .i64 90]) (results_tmp2 Tryz.results9 _ _ _) rfl ⟨rfl, H1.out⟩
theorem rEncode_any (i : In) (w : World) : Calls Tryz.prog 7 #[i.v] w fun e w' => e = .returned (.tuple #[.string (if mayB i = true then ⟨(encL i).toArray⟩ else ⟨#[]⟩), .int .i64 (if mayB i = true then 0 else 90)]) ∧ Fr [] w w' := by
  by_cases hm : mayB i = true
  · obtain ⟨k, hk, hop, hok⟩ := (mayB_iff i).1 hm
    rw [if_pos hm, if_pos hm]
    exact rEncode_good i k hk hop hok w
  · have e0 : chkI i = 90 := by
      unfold chkI
      by_cases h : i.op < 0 ∨ 30 ≤ i.op
      · rw [if_pos h]
      · rw [if_neg h, okI_eq i (by omega)]
        by_cases ho : okL i i.op.toNat = true
        · exact absurd ((mayB_iff i).2 ⟨i.op.toNat, by omega, by omega, ho⟩) hm
        · rw [if_neg ho]
    rw [if_neg hm, if_neg hm]
    exact rEncode_bad i e0 w
end Go.Proofs.YtjijhjdemkgpgaaGreatDoor

/- Print, of the program. -/
import Derived.Test.YtjijhjdemkgpgaaGreatDoorI4
import Derived.Test.YtjijhjdemkgpgaaGreatDoorI5
import Derived.Deep.AppendLies
import Derived.Lib.OthersKept
import Derived.Lib.ItoaLen
namespace Go.Proofs.YtjijhjdemkgpgaaGreatDoor
open Go.RowKit
set_option linter.unusedVariables false
set_option linter.unusedSimpArgs false
set_option maxRecDepth 100000
set_option maxHeartbeats 8000000 in
theorem Print_bad (i : In) (k : Nat) (hk : k < 30) (hop : i.op = (k : Int)) (hno : okL i k = false) (w : World) : Calls Tryz.prog 8 #[i.v] w fun e w' => e = .returned (.tuple #[.string ⟨#[]⟩, .int .i64 90]) ∧ Fr [] w w' := by
  have HC := Lib.hid (fun W => Check_in i k hk hop W)
  rw [okI_eq i hk, hno] at HC
  obtain ⟨op, a, b, m⟩ := i
  simp only [Bool.false_eq_true, if_false] at HC
  have HB0 := Lib.hid (Blk.new w 23 #[.int .i64 op, .int .i64 a, .int .i64 b, .int .i64 m])
  have H0 : Hid (Fr [] w (w.alloc (.cells #[.int .i64 op, .int .i64 a, .int .i64 b, .int .i64 m] 23))) := Lib.hid ((Fr.refl [] w).alloc _)
  clear hno hop hk
  go_enter Tryz.func8, Tryz.ntmps8
  go_wp2_with (first
    | (go_at_call 15; refine (HC.out _).mono ?_; rintro e w1 ⟨rfl, hf⟩; have H1 := Lib.hid (H0.out.trans hf); clear hf)
    | fail)
  all_goals
    exact bodyPost_ret (v := .tuple #[.string ⟨#[]⟩, .int .i64 90]) (results_tmp2 Tryz.results8 _ _ _) rfl ⟨rfl, H1.out⟩
theorem Fr.iterAt {S : List Nat} {w w' : World} (h : Fr S w w') {k : Nat} (hk : w.heap.size ≤ k) (s : ByteArray) (pos : Nat) : Fr S w (w'.iterAt k s pos) :=
  ⟨h.os, h.tape, h.output, by simpa [World.iterAt] using h.size, fun i hi hn => by
    rw [← h.block i hi hn]
    exact Lib.iterAt_other w' k i s pos (by omega)⟩
theorem bext {a b : ByteArray} (h : a.data.toList = b.data.toList) : a = b := by
  cases a with
  | mk x =>
    cases b with
    | mk y =>
      congr 1
      exact Array.toList_inj.1 h
theorem cat_of {t u : ByteArray} {pre l : List UInt8} (h : u.data.toList = t.data.toList ++ (pre ++ l)) : t ++ ((⟨pre.toArray⟩ : ByteArray) ++ ⟨l.toArray⟩) = u := by
  apply bext
  rw [h]
  simp [ByteArray.data_append]
/-- The text so far. -/
def txS (i : In) (k p : Nat) : ByteArray := ⟨(nmL k ++ (((fmL k).take p).map (fieldT i [])).flatMap (32 :: ·)).toArray⟩
set_option maxHeartbeats 8000000 in
theorem Print_good (i : In) (k : Nat) (hk : k < 30) (hop : i.op = (k : Int)) (hyes : okL i k = true) (w : World) (hw : Std w) : Calls Tryz.prog 8 #[i.v] w fun e w' => e = .returned (.tuple #[.string ⟨(textL i [] k).toArray⟩, .int .i64 0]) ∧ Fr [] w w' := by
  have HC := Lib.hid (fun W => Check_in i k hk hop W)
  rw [okI_eq i hk, hyes] at HC
  have hbd := ok_bounds hk hyes
  obtain ⟨op, a, b, m⟩ := i
  simp only [if_true] at HC
  simp only at hbd hop
  subst hop
  have HBD := Lib.hid hbd
  have HO := Lib.hid (fun W => operations_any W)
  have hi := ops_at k hk
  have HSt := Lib.hid hw
  have HK := Lib.hid hk
  have HB0 := Lib.hid (Blk.new w 23 #[.int .i64 k, .int .i64 a, .int .i64 b, .int .i64 m])
  have H0 : Hid (Fr [] w (w.alloc (.cells #[.int .i64 k, .int .i64 a, .int .i64 b, .int .i64 m] 23))) := Lib.hid ((Fr.refl [] w).alloc _)
  clear hyes hk hw hbd
  have HAS := Lib.hid (fm_small k HK.out).2
  have HF8 := Lib.hid (fm_small k HK.out).1
  have HN8 : Hid ((nm k).size ≤ 8) := Lib.hid (by
    have h1 : ∀ k, k < 30 → (nm k).size ≤ 8 := by decide
    exact h1 k HK.out)
  have HT0 : Hid (nm k = txS ⟨k, a, b, m⟩ k 0) := Lib.hid (by unfold nm txS nmL; simp)
  have HTn : Hid (∀ p (h : p < (fm k).size), (txS ⟨k, a, b, m⟩ k (p + 1)).data.toList = (txS ⟨k, a, b, m⟩ k p).data.toList ++ 32 :: fieldT ⟨k, a, b, m⟩ [] ((fm k)[p]'h)) := Lib.hid (fun p h => by
    have hg : (fmL k)[p]? = some ((fm k)[p]'h) := List.getElem?_eq_getElem (by exact h)
    unfold txS
    simp only [List.toList_toArray]
    rw [List.take_add_one, hg]
    simp)
  have HTe : Hid (txS ⟨k, a, b, m⟩ k (fm k).size = ⟨(textL ⟨k, a, b, m⟩ [] k).toArray⟩) := Lib.hid (by
    unfold txS textL
    rw [List.take_of_length_le (by exact Nat.le_refl _)])
  generalize hTx : txS ⟨k, a, b, m⟩ k = T at *
  generalize (⟨(textL ⟨k, a, b, m⟩ [] k).toArray⟩ : ByteArray) = TE at *
  generalize hV : opsV = V at *
  go_enter Tryz.func8, Tryz.ntmps8
  go_upto_region 4 with (first
    | (go_at_call 15; refine (HC.out _).mono ?_; rintro e w1 ⟨rfl, hf⟩; have H1 := Lib.hid (H0.out.trans hf); have HB1 := Lib.hid (HB0.out.fr hf (by simp)); clear hf; have c0 : w1.cell? ⟨w.heap.size, 0, none⟩ = some (.int .i64 (k : Int)) := HB1.out.cell 0)
    | fail)
  generalize nm k = N at *
  generalize fm k = F at *
  go_cut [5] (fun v5 wx => ∃ g, v5 = .pointer (some ⟨g, 0, none⟩) ∧ Blk wx g 39 #[.string N, .string F] ∧ Fr [] w1 wx ∧ w1.heap.size ≤ g)
  case first =>
    have c7 : (w1.alloc (.cells #[.string ⟨#[]⟩, .string ⟨#[]⟩] 39)).cell? ⟨w.heap.size, 0, none⟩ = some (.int .i64 (k : Int)) := ((Fr.refl [] w1).alloc _).cell_some c0 (by simp)
    go_region_law (first
      | (go_simp; go_at_call 21; refine (HO.out _).mono ?_; rintro e w2 ⟨rfl, hf⟩; have hz : Fr [] w1 w2 := (Fr.refl [] w1).drew.trans hf; have c9 := hz.cell_some c0 (by simp); have c8 : (w2.alloc (.cells #[.string ⟨#[]⟩, .string ⟨#[]⟩] 39)).cell? ⟨w.heap.size, 0, none⟩ = some (.int .i64 (k : Int)) := ((Fr.refl [] w2).alloc _).cell_some c9 (by simp); have HZ := Lib.hid hz; clear hf hz)
      | (go_simp; go_at_call 21; refine (HO.out _).mono ?_; rintro e w2 ⟨rfl, hf⟩; have hz : Fr [] w1 w2 := ((Fr.refl [] w1).drew.alloc _).trans hf; have c9 := hz.cell_some c0 (by simp); have hb := (Blk.new w1.drew 39 #[.string ⟨#[]⟩, .string ⟨#[]⟩]).fr hf (by simp); have c5 : w2.cell? ⟨w1.heap.size, 0, none⟩ = some (.string ⟨#[]⟩) := hb.cell 0; have c6 : w2.cell? ⟨w1.heap.size, 1, none⟩ = some (.string ⟨#[]⟩) := hb.cell 1; have f5 : ∀ i, w2.frozen? ⟨w1.heap.size, i, none⟩ = false := fun i => hb.frozen i; have HZ := Lib.hid hz; have HZ9 := Lib.hid hb; clear hf hz hb)
      | fail)
    all_goals
      go_wp2_with fail
      go_meet
      first
        | exact ⟨_, rfl, Blk.new _ _ _, (HZ.out).alloc _, HZ.out.size⟩
        | exact ⟨_, rfl, ((HZ9.out.set_ 0 _).set_ 1 _), (HZ.out.setCell (Or.inr (Nat.le_refl _)) _).setCell (Or.inr (Nat.le_refl _)) _, Nat.le_refl _⟩
  case rest =>
    obtain ⟨g, rfl, hb2, hf2, hge⟩ := hcut
    have d0 := hb2.cell 0
    have d1 := hb2.cell 1
    simp at d0 d1
    have Hf2 := Lib.hid hf2
    have HB2 := Lib.hid (HB1.out.fr hf2 (by simp))
    have H2 := Lib.hid (H1.out.trans hf2)
    clear hb2 hf2
    go_wp2_with fail
    go_loopg [6] F.size (fun gg v6 w' => ∃ p : Nat, p + gg = F.size ∧ w'.heap[wc.heap.size]? = some (.stringIter F p) ∧ v6 = .string (T p) ∧ (T p).size ≤ 8 + 30 * p ∧ Fr [] wc w')
    case atStart => exact ⟨0, by omega, World.iter_heap wc F 0, by rw [← HT0.out], by rw [← HT0.out]; have := HN8.out; omega, (Fr.refl [] wc).alloc _⟩
    case round =>
      obtain ⟨p, hp, hit, rfl, hts, hf⟩ := hrel
      have Hts := Lib.hid hts
      clear hts
      have Hp := Lib.hid hp
      have HSR := Lib.hid ((HSt.out.fr H2.out).fr hf)
      by_cases hlt : p < F.size
      · have hnx : ∀ ty, (Instr.next (.pointer (some ⟨wc.heap.size, 0, none⟩)) true ty).run Tryz.prog wr = .ok (.tuple #[.bool true, .int .i64 p, .int .i32 (((F[p]'hlt).toNat : Nat) : Int)]) (wr.iterAt wc.heap.size F (p + 1)) := fun ty => Lib.run_next_ascii_at wr wc.heap.size F p ty hit hlt (HAS.out p hlt)
        have hf3 : Fr [] wc (wr.iterAt wc.heap.size F (p + 1)) := Fr.iterAt hf (Nat.le_refl _) _ _
        have hit3 : (wr.iterAt wc.heap.size F (p + 1)).heap[wc.heap.size]? = some (.stringIter F (p + 1)) := Lib.iterAt_heap wr _ F p (p + 1) hit
        generalize wr.iterAt wc.heap.size F (p + 1) = W3 at *
        have hS3 := Lib.hid ((HSt.out.fr H2.out).fr hf3)
        have HB3 := HB2.out.fr hf3 (by simp)
        have b1 : W3.cell? ⟨w.heap.size, 1, none⟩ = some (.int .i64 a) := HB3.cell 1
        have b2 : W3.cell? ⟨w.heap.size, 2, none⟩ = some (.int .i64 b) := HB3.cell 2
        have b3 : W3.cell? ⟨w.heap.size, 3, none⟩ = some (.int .i64 m) := HB3.cell 3
        have HT := Lib.hid (HTn.out p hlt)
        have Hit3 := Lib.hid hit3
        have Hf3 := Lib.hid hf3
        clear hp hit hf hit3 hf3 HB3
        obtain ⟨d, hd⟩ : ∃ d, (F[p]'hlt) = d := ⟨_, rfl⟩
        rw [hd] at hnx HT
        clear hd
        by_cases q1 : d.toNat = 97
        · have q1' : ((d.toNat : Nat) : Int) = 97 := by omega
          have qd : d = 97 := UInt8.toNat_inj.1 (by rw [q1]; rfl)
          rw [q1'] at hnx
          clear q1'
          have hl1 := Lib.itoa_length_le a (by have := HBD.out.1; omega) (by have := HBD.out.1; omega)
          have hL1 := Lib.hid hl1
          have l1 : ¬ 9223372036854775807 < 2 + (Lib.itoa a).length := by omega
          have l2 : ¬ 9223372036854775807 < (T p).size + (2 + (Lib.itoa a).length) := by have := Hts.out; have := Hp.out; have := HF8.out; omega
          have hE : T p ++ ((⟨#[32, 114]⟩ : ByteArray) ++ ⟨(Lib.itoa a).toArray⟩) = T (p + 1) := cat_of (pre := [32, 114]) (by rw [HT.out]; simp [fieldT, qd])
          have hZ : (T (p + 1)).size ≤ 8 + 30 * (p + 1) := by
            have h1 : (T (p + 1)).size = (T p).size + (2 + (Lib.itoa a).length) := by
              rw [← hE, ByteArray.size_append, ByteArray.size_append]
              rfl
            have := Hts.out
            omega
          have HE := Lib.hid hE
          have HZ := Lib.hid hZ
          clear hE hZ hl1
          go_wp2_with (first
            | (go_at_call 22; refine (Itoa_any a (by have := HBD.out.1; omega) (by have := HBD.out.1; omega) _ hS3.out).mono ?_; rintro e W4 ⟨rfl, hf4⟩; have Hf4 := Lib.hid hf4; clear hf4)
            | fail)
          go_roundg (F.size - (p + 1))
          case measure => have := Hp.out; omega
          case rel => exact ⟨p + 1, by have := Hp.out; omega, (Hf4.out.block _ (Array.getElem?_eq_some_iff.1 Hit3.out).1 (by simp)).trans Hit3.out, by rw [HE.out], HZ.out, Hf3.out.trans Hf4.out⟩
        · by_cases q2 : d.toNat = 98
          · have q2' : ((d.toNat : Nat) : Int) = 98 := by omega
            have qd : d = 98 := UInt8.toNat_inj.1 (by rw [q2]; rfl)
            rw [q2'] at hnx
            clear q2'
            have hl1 := Lib.itoa_length_le b (by have := HBD.out.2.1; omega) (by have := HBD.out.2.1; omega)
            have hL1 := Lib.hid hl1
            have l1 : ¬ 9223372036854775807 < 2 + (Lib.itoa b).length := by omega
            have l2 : ¬ 9223372036854775807 < (T p).size + (2 + (Lib.itoa b).length) := by have := Hts.out; have := Hp.out; have := HF8.out; omega
            have hE : T p ++ ((⟨#[32, 114]⟩ : ByteArray) ++ ⟨(Lib.itoa b).toArray⟩) = T (p + 1) := cat_of (pre := [32, 114]) (by rw [HT.out]; simp [fieldT, qd])
            have hZ : (T (p + 1)).size ≤ 8 + 30 * (p + 1) := by
              have h1 : (T (p + 1)).size = (T p).size + (2 + (Lib.itoa b).length) := by
                rw [← hE, ByteArray.size_append, ByteArray.size_append]
                rfl
              have := Hts.out
              omega
            have HE := Lib.hid hE
            have HZ := Lib.hid hZ
            clear hE hZ hl1
            go_wp2_with (first
              | (go_at_call 22; refine (Itoa_any b (by have := HBD.out.2.1; omega) (by have := HBD.out.2.1; omega) _ hS3.out).mono ?_; rintro e W4 ⟨rfl, hf4⟩; have Hf4 := Lib.hid hf4; clear hf4)
              | fail)
            go_roundg (F.size - (p + 1))
            case measure => have := Hp.out; omega
            case rel => exact ⟨p + 1, by have := Hp.out; omega, (Hf4.out.block _ (Array.getElem?_eq_some_iff.1 Hit3.out).1 (by simp)).trans Hit3.out, by rw [HE.out], HZ.out, Hf3.out.trans Hf4.out⟩
          · have q3 : ¬ ((d.toNat : Nat) : Int) = 97 := by omega
            have q4 : ¬ ((d.toNat : Nat) : Int) = 98 := by omega
            have q5 : (((d.toNat : Nat) : Int) == 97) = false := beq_eq_false_iff_ne.2 q3
            have q6 : (((d.toNat : Nat) : Int) == 98) = false := beq_eq_false_iff_ne.2 q4
            have e1 : ¬ d = 97 := fun e => q1 (by rw [e]; rfl)
            have e2 : ¬ d = 98 := fun e => q2 (by rw [e]; rfl)
            have hl1 := Lib.itoa_length_le m (by have := HBD.out.2.2; split at this <;> omega) (by have := HBD.out.2.2; split at this <;> omega)
            have hL1 := Lib.hid hl1
            have l1 : ¬ 9223372036854775807 < 1 + (Lib.itoa m).length := by omega
            have l2 : ¬ 9223372036854775807 < (T p).size + (1 + (Lib.itoa m).length) := by have := Hts.out; have := Hp.out; have := HF8.out; omega
            have hE : T p ++ ((⟨#[32]⟩ : ByteArray) ++ ⟨(Lib.itoa m).toArray⟩) = T (p + 1) := cat_of (pre := [32]) (by rw [HT.out]; simp [fieldT, e1, e2])
            have hZ : (T (p + 1)).size ≤ 8 + 30 * (p + 1) := by
              have h1 : (T (p + 1)).size = (T p).size + (1 + (Lib.itoa m).length) := by
                rw [← hE, ByteArray.size_append, ByteArray.size_append]
                rfl
              have := Hts.out
              omega
            have HE := Lib.hid hE
            have HZ := Lib.hid hZ
            clear hE hZ hl1
            go_wp2_with (first
              | (go_at_call 22; refine (Itoa_any m (by have := HBD.out.2.2; split at this <;> omega) (by have := HBD.out.2.2; split at this <;> omega) _ hS3.out).mono ?_; rintro e W4 ⟨rfl, hf4⟩; have Hf4 := Lib.hid hf4; clear hf4)
              | fail)
            go_roundg (F.size - (p + 1))
            case measure => have := Hp.out; omega
            case rel => exact ⟨p + 1, by have := Hp.out; omega, (Hf4.out.block _ (Array.getElem?_eq_some_iff.1 Hit3.out).1 (by simp)).trans Hit3.out, by rw [HE.out], HZ.out, Hf3.out.trans Hf4.out⟩
      · have hnx : ∀ ty, (Instr.next (.pointer (some ⟨wc.heap.size, 0, none⟩)) true ty).run Tryz.prog wr = .ok (.tuple #[.bool false]) wr := fun ty => Lib.run_next_end_at wr wc.heap.size F p ty hit hlt
        have hpe : p = F.size := by omega
        have HPE := Lib.hid hpe
        have Hf := Lib.hid hf
        clear hp hit hf hpe
        go_wp2_with fail
        all_goals
          exact bodyPost_ret (v := .tuple #[.string (T p), .int .i64 0]) (results_tmp2 Tryz.results8 _ _ _) rfl ⟨by rw [HPE.out, HTe.out], H2.out.trans Hf.out⟩
end Go.Proofs.YtjijhjdemkgpgaaGreatDoor

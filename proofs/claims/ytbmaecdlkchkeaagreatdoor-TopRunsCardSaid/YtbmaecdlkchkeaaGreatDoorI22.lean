/- Decode's word tied to the plain one. Print, of the program. List, of the program. -/
import Derived.Test.YtbmaecdlkchkeaaGreatDoorI3
import Derived.Test.YtbmaecdlkchkeaaGreatDoorI4
import Derived.Test.YtbmaecdlkchkeaaGreatDoorI6
import Derived.Deep.AppendLies
import Derived.Lib.OthersKept
import Derived.Lib.ItoaLen
import Derived.Test.YtbmaecdlkchkeaaGreatDoorI21
namespace Go.Proofs.YtbmaecdlkchkeaaGreatDoor
open Go.RowKit
set_option linter.unusedVariables false
set_option linter.unusedSimpArgs false
theorem mk_tie (x : W4) (hk : x.a.toNat < 30) : mkI x.a.toNat x.b.toNat x.c.toNat x.d.toNat = mkL x := by
  obtain ⟨-, -, h3, -⟩ := form_has x.a.toNat hk
  unfold mkI mkL imB
  rw [h3]
  rfl
theorem dec_tie (x : W4) : decI ⟨x.l.toArray⟩ = match decL x with | some i => (i, 0) | none => (In0, 91) := by
  have h : decI ⟨x.l.toArray⟩ = decB x.a.toNat x.b.toNat x.c.toNat x.d.toNat := rfl
  rw [h]
  unfold decB decL
  by_cases hk : x.a.toNat < 30
  · rw [mk_tie x hk, okI_eq _ hk]
    by_cases ho : okL (mkL x) x.a.toNat = true
    · rw [if_pos ⟨hk, ho⟩, if_pos ⟨hk, ho⟩]
    · rw [if_neg (fun e => ho e.2), if_neg (fun e => ho e.2)]
  · rw [if_neg (fun e => hk e.1), if_neg (fun e => hk e.1)]
end Go.Proofs.YtbmaecdlkchkeaaGreatDoor
namespace Go.Proofs.YtbmaecdlkchkeaaGreatDoor
open Go.RowKit
set_option linter.unusedVariables false
set_option linter.unusedSimpArgs false
set_option maxRecDepth 100000
set_option maxHeartbeats 8000000 in
theorem Print_bad (i : In) (k : Nat) (hk : k < 30) (hop : i.op = (k : Int)) (hno : okL i k = false) (w : World) : Calls Tryz.prog 40 #[i.v] w fun e w' => e = .returned (.tuple #[.string ⟨#[]⟩, .int .i64 90]) ∧ Fr [] w w' := by
  have HC := Lib.hid (fun W => Check_in i k hk hop W)
  rw [okI_eq i hk, hno] at HC
  obtain ⟨op, a, b, m⟩ := i
  simp only [Bool.false_eq_true, if_false] at HC
  have HB0 := Lib.hid (Blk.new w 55 #[.int .i64 op, .int .i64 a, .int .i64 b, .int .i64 m])
  have H0 : Hid (Fr [] w (w.alloc (.cells #[.int .i64 op, .int .i64 a, .int .i64 b, .int .i64 m] 55))) := Lib.hid ((Fr.refl [] w).alloc _)
  clear hno hop hk
  go_enter Tryz.func40, Tryz.ntmps40
  go_wp2_with (first
    | (go_at_call 26; refine (HC.out _).mono ?_; rintro e w1 ⟨rfl, hf⟩; have H1 := Lib.hid (H0.out.trans hf); clear hf)
    | fail)
  all_goals
    exact bodyPost_ret (v := .tuple #[.string ⟨#[]⟩, .int .i64 90]) (results_tmp2 Tryz.results40 _ _ _) rfl ⟨rfl, H1.out⟩
theorem Fr.iterAt {S : List Nat} {w w' : World} (h : Fr S w w') {k : Nat} (hk : w.heap.size ≤ k) (s : ByteArray) (pos : Nat) : Fr S w (w'.iterAt k s pos) :=
  ⟨h.os, h.tape, h.output, by simpa [World.iterAt] using h.size, fun i hi hn => by
    rw [← h.block i hi hn]
    exact Lib.iterAt_other w' k i s pos (by omega)⟩
theorem bext {a b : ByteArray} (h : a.data.toList = b.data.toList) : a = b := by
  cases a with
  | mk x =>
    cases b with
    | mk y =>
      congr 1
      exact Array.toList_inj.1 h
theorem cat_of {t u : ByteArray} {pre l : List UInt8} (h : u.data.toList = t.data.toList ++ (pre ++ l)) : t ++ ((⟨pre.toArray⟩ : ByteArray) ++ ⟨l.toArray⟩) = u := by
  apply bext
  rw [h]
  simp [ByteArray.data_append]
/-- The text so far. -/
def txS (i : In) (k p : Nat) : ByteArray := ⟨(nmL k ++ (((fmL k).take p).map (fieldT i [])).flatMap (32 :: ·)).toArray⟩
set_option maxHeartbeats 8000000 in
theorem Print_good (i : In) (k : Nat) (hk : k < 30) (hop : i.op = (k : Int)) (hyes : okL i k = true) (w : World) (hw : Std w) : Calls Tryz.prog 40 #[i.v] w fun e w' => e = .returned (.tuple #[.string ⟨(textL i [] k).toArray⟩, .int .i64 0]) ∧ Fr [] w w' := by
  have HC := Lib.hid (fun W => Check_in i k hk hop W)
  rw [okI_eq i hk, hyes] at HC
  have hbd := ok_bounds hk hyes
  obtain ⟨op, a, b, m⟩ := i
  simp only [if_true] at HC
  simp only at hbd hop
  subst hop
  have HBD := Lib.hid hbd
  have HO := Lib.hid (fun W => operations_any W)
  have hi := ops_at k hk
  have HSt := Lib.hid hw
  have HK := Lib.hid hk
  have HB0 := Lib.hid (Blk.new w 55 #[.int .i64 k, .int .i64 a, .int .i64 b, .int .i64 m])
  have H0 : Hid (Fr [] w (w.alloc (.cells #[.int .i64 k, .int .i64 a, .int .i64 b, .int .i64 m] 55))) := Lib.hid ((Fr.refl [] w).alloc _)
  clear hyes hk hw hbd
  have HAS := Lib.hid (fm_small k HK.out).2
  have HF8 := Lib.hid (fm_small k HK.out).1
  have HN8 : Hid ((nm k).size ≤ 8) := Lib.hid (by
    have h1 : ∀ k, k < 30 → (nm k).size ≤ 8 := by decide
    exact h1 k HK.out)
  have HT0 : Hid (nm k = txS ⟨k, a, b, m⟩ k 0) := Lib.hid (by unfold nm txS nmL; simp)
  have HTn : Hid (∀ p (h : p < (fm k).size), (txS ⟨k, a, b, m⟩ k (p + 1)).data.toList = (txS ⟨k, a, b, m⟩ k p).data.toList ++ 32 :: fieldT ⟨k, a, b, m⟩ [] ((fm k)[p]'h)) := Lib.hid (fun p h => by
    have hg : (fmL k)[p]? = some ((fm k)[p]'h) := List.getElem?_eq_getElem (by exact h)
    unfold txS
    simp only [List.toList_toArray]
    rw [List.take_add_one, hg]
    simp)
  have HTe : Hid (txS ⟨k, a, b, m⟩ k (fm k).size = ⟨(textL ⟨k, a, b, m⟩ [] k).toArray⟩) := Lib.hid (by
    unfold txS textL
    rw [List.take_of_length_le (by exact Nat.le_refl _)])
  generalize hTx : txS ⟨k, a, b, m⟩ k = T at *
  generalize (⟨(textL ⟨k, a, b, m⟩ [] k).toArray⟩ : ByteArray) = TE at *
  generalize hV : opsV = V at *
  go_enter Tryz.func40, Tryz.ntmps40
  go_upto_region 4 with (first
    | (go_at_call 26; refine (HC.out _).mono ?_; rintro e w1 ⟨rfl, hf⟩; have H1 := Lib.hid (H0.out.trans hf); have HB1 := Lib.hid (HB0.out.fr hf (by simp)); clear hf; have c0 : w1.cell? ⟨w.heap.size, 0, none⟩ = some (.int .i64 (k : Int)) := HB1.out.cell 0)
    | fail)
  generalize nm k = N at *
  generalize fm k = F at *
  go_cut [5] (fun v5 wx => ∃ g, v5 = .pointer (some ⟨g, 0, none⟩) ∧ Blk wx g 111 #[.string N, .string F] ∧ Fr [] w1 wx ∧ w1.heap.size ≤ g)
  case first =>
    have c7 : (w1.alloc (.cells #[.string ⟨#[]⟩, .string ⟨#[]⟩] 111)).cell? ⟨w.heap.size, 0, none⟩ = some (.int .i64 (k : Int)) := ((Fr.refl [] w1).alloc _).cell_some c0 (by simp)
    go_region_law (first
      | (go_simp; go_at_call 49; refine (HO.out _).mono ?_; rintro e w2 ⟨rfl, hf⟩; have hz : Fr [] w1 w2 := (Fr.refl [] w1).drew.trans hf; have c9 := hz.cell_some c0 (by simp); have c8 : (w2.alloc (.cells #[.string ⟨#[]⟩, .string ⟨#[]⟩] 111)).cell? ⟨w.heap.size, 0, none⟩ = some (.int .i64 (k : Int)) := ((Fr.refl [] w2).alloc _).cell_some c9 (by simp); have HZ := Lib.hid hz; clear hf hz)
      | (go_simp; go_at_call 49; refine (HO.out _).mono ?_; rintro e w2 ⟨rfl, hf⟩; have hz : Fr [] w1 w2 := ((Fr.refl [] w1).drew.alloc _).trans hf; have c9 := hz.cell_some c0 (by simp); have hb := (Blk.new w1.drew 111 #[.string ⟨#[]⟩, .string ⟨#[]⟩]).fr hf (by simp); have c5 : w2.cell? ⟨w1.heap.size, 0, none⟩ = some (.string ⟨#[]⟩) := hb.cell 0; have c6 : w2.cell? ⟨w1.heap.size, 1, none⟩ = some (.string ⟨#[]⟩) := hb.cell 1; have f5 : ∀ i, w2.frozen? ⟨w1.heap.size, i, none⟩ = false := fun i => hb.frozen i; have HZ := Lib.hid hz; have HZ9 := Lib.hid hb; clear hf hz hb)
      | fail)
    all_goals
      go_wp2_with fail
      go_meet
      first
        | exact ⟨_, rfl, Blk.new _ _ _, (HZ.out).alloc _, HZ.out.size⟩
        | exact ⟨_, rfl, ((HZ9.out.set_ 0 _).set_ 1 _), (HZ.out.setCell (Or.inr (Nat.le_refl _)) _).setCell (Or.inr (Nat.le_refl _)) _, Nat.le_refl _⟩
  case rest =>
    obtain ⟨g, rfl, hb2, hf2, hge⟩ := hcut
    have d0 := hb2.cell 0
    have d1 := hb2.cell 1
    simp at d0 d1
    have Hf2 := Lib.hid hf2
    have HB2 := Lib.hid (HB1.out.fr hf2 (by simp))
    have H2 := Lib.hid (H1.out.trans hf2)
    clear hb2 hf2
    go_wp2_with fail
    go_loopg [6] F.size (fun gg v6 w' => ∃ p : Nat, p + gg = F.size ∧ w'.heap[wc.heap.size]? = some (.stringIter F p) ∧ v6 = .string (T p) ∧ (T p).size ≤ 8 + 30 * p ∧ Fr [] wc w')
    case atStart => exact ⟨0, by omega, World.iter_heap wc F 0, by rw [← HT0.out], by rw [← HT0.out]; have := HN8.out; omega, (Fr.refl [] wc).alloc _⟩
    case round =>
      obtain ⟨p, hp, hit, rfl, hts, hf⟩ := hrel
      have Hts := Lib.hid hts
      clear hts
      have Hp := Lib.hid hp
      have HSR := Lib.hid ((HSt.out.fr H2.out).fr hf)
      by_cases hlt : p < F.size
      · have hnx : ∀ ty, (Instr.next (.pointer (some ⟨wc.heap.size, 0, none⟩)) true ty).run Tryz.prog wr = .ok (.tuple #[.bool true, .int .i64 p, .int .i32 (((F[p]'hlt).toNat : Nat) : Int)]) (wr.iterAt wc.heap.size F (p + 1)) := fun ty => Lib.run_next_ascii_at wr wc.heap.size F p ty hit hlt (HAS.out p hlt)
        have hf3 : Fr [] wc (wr.iterAt wc.heap.size F (p + 1)) := Fr.iterAt hf (Nat.le_refl _) _ _
        have hit3 : (wr.iterAt wc.heap.size F (p + 1)).heap[wc.heap.size]? = some (.stringIter F (p + 1)) := Lib.iterAt_heap wr _ F p (p + 1) hit
        generalize wr.iterAt wc.heap.size F (p + 1) = W3 at *
        have hS3 := Lib.hid ((HSt.out.fr H2.out).fr hf3)
        have HB3 := HB2.out.fr hf3 (by simp)
        have b1 : W3.cell? ⟨w.heap.size, 1, none⟩ = some (.int .i64 a) := HB3.cell 1
        have b2 : W3.cell? ⟨w.heap.size, 2, none⟩ = some (.int .i64 b) := HB3.cell 2
        have b3 : W3.cell? ⟨w.heap.size, 3, none⟩ = some (.int .i64 m) := HB3.cell 3
        have HT := Lib.hid (HTn.out p hlt)
        have Hit3 := Lib.hid hit3
        have Hf3 := Lib.hid hf3
        clear hp hit hf hit3 hf3 HB3
        obtain ⟨d, hd⟩ : ∃ d, (F[p]'hlt) = d := ⟨_, rfl⟩
        rw [hd] at hnx HT
        clear hd
        by_cases q1 : d.toNat = 97
        · have q1' : ((d.toNat : Nat) : Int) = 97 := by omega
          have qd : d = 97 := UInt8.toNat_inj.1 (by rw [q1]; rfl)
          rw [q1'] at hnx
          clear q1'
          have hl1 := Lib.itoa_length_le a (by have := HBD.out.1; omega) (by have := HBD.out.1; omega)
          have hL1 := Lib.hid hl1
          have l1 : ¬ 9223372036854775807 < 2 + (Lib.itoa a).length := by omega
          have l2 : ¬ 9223372036854775807 < (T p).size + (2 + (Lib.itoa a).length) := by have := Hts.out; have := Hp.out; have := HF8.out; omega
          have hE : T p ++ ((⟨#[32, 114]⟩ : ByteArray) ++ ⟨(Lib.itoa a).toArray⟩) = T (p + 1) := cat_of (pre := [32, 114]) (by rw [HT.out]; simp [fieldT, qd])
          have hZ : (T (p + 1)).size ≤ 8 + 30 * (p + 1) := by
            have h1 : (T (p + 1)).size = (T p).size + (2 + (Lib.itoa a).length) := by
              rw [← hE, ByteArray.size_append, ByteArray.size_append]
              rfl
            have := Hts.out
            omega
          have HE := Lib.hid hE
          have HZ := Lib.hid hZ
          clear hE hZ hl1
          go_wp2_with (first
            | (go_at_call 38; refine (Itoa_any a (by have := HBD.out.1; omega) (by have := HBD.out.1; omega) _ hS3.out).mono ?_; rintro e W4 ⟨rfl, hf4⟩; have Hf4 := Lib.hid hf4; clear hf4)
            | fail)
          go_roundg (F.size - (p + 1))
          case measure => have := Hp.out; omega
          case rel => exact ⟨p + 1, by have := Hp.out; omega, (Hf4.out.block _ (Array.getElem?_eq_some_iff.1 Hit3.out).1 (by simp)).trans Hit3.out, by rw [HE.out], HZ.out, Hf3.out.trans Hf4.out⟩
        · by_cases q2 : d.toNat = 98
          · have q2' : ((d.toNat : Nat) : Int) = 98 := by omega
            have qd : d = 98 := UInt8.toNat_inj.1 (by rw [q2]; rfl)
            rw [q2'] at hnx
            clear q2'
            have hl1 := Lib.itoa_length_le b (by have := HBD.out.2.1; omega) (by have := HBD.out.2.1; omega)
            have hL1 := Lib.hid hl1
            have l1 : ¬ 9223372036854775807 < 2 + (Lib.itoa b).length := by omega
            have l2 : ¬ 9223372036854775807 < (T p).size + (2 + (Lib.itoa b).length) := by have := Hts.out; have := Hp.out; have := HF8.out; omega
            have hE : T p ++ ((⟨#[32, 114]⟩ : ByteArray) ++ ⟨(Lib.itoa b).toArray⟩) = T (p + 1) := cat_of (pre := [32, 114]) (by rw [HT.out]; simp [fieldT, qd])
            have hZ : (T (p + 1)).size ≤ 8 + 30 * (p + 1) := by
              have h1 : (T (p + 1)).size = (T p).size + (2 + (Lib.itoa b).length) := by
                rw [← hE, ByteArray.size_append, ByteArray.size_append]
                rfl
              have := Hts.out
              omega
            have HE := Lib.hid hE
            have HZ := Lib.hid hZ
            clear hE hZ hl1
            go_wp2_with (first
              | (go_at_call 38; refine (Itoa_any b (by have := HBD.out.2.1; omega) (by have := HBD.out.2.1; omega) _ hS3.out).mono ?_; rintro e W4 ⟨rfl, hf4⟩; have Hf4 := Lib.hid hf4; clear hf4)
              | fail)
            go_roundg (F.size - (p + 1))
            case measure => have := Hp.out; omega
            case rel => exact ⟨p + 1, by have := Hp.out; omega, (Hf4.out.block _ (Array.getElem?_eq_some_iff.1 Hit3.out).1 (by simp)).trans Hit3.out, by rw [HE.out], HZ.out, Hf3.out.trans Hf4.out⟩
          · have q3 : ¬ ((d.toNat : Nat) : Int) = 97 := by omega
            have q4 : ¬ ((d.toNat : Nat) : Int) = 98 := by omega
            have q5 : (((d.toNat : Nat) : Int) == 97) = false := beq_eq_false_iff_ne.2 q3
            have q6 : (((d.toNat : Nat) : Int) == 98) = false := beq_eq_false_iff_ne.2 q4
            have e1 : ¬ d = 97 := fun e => q1 (by rw [e]; rfl)
            have e2 : ¬ d = 98 := fun e => q2 (by rw [e]; rfl)
            have hl1 := Lib.itoa_length_le m (by have := HBD.out.2.2; split at this <;> omega) (by have := HBD.out.2.2; split at this <;> omega)
            have hL1 := Lib.hid hl1
            have l1 : ¬ 9223372036854775807 < 1 + (Lib.itoa m).length := by omega
            have l2 : ¬ 9223372036854775807 < (T p).size + (1 + (Lib.itoa m).length) := by have := Hts.out; have := Hp.out; have := HF8.out; omega
            have hE : T p ++ ((⟨#[32]⟩ : ByteArray) ++ ⟨(Lib.itoa m).toArray⟩) = T (p + 1) := cat_of (pre := [32]) (by rw [HT.out]; simp [fieldT, e1, e2])
            have hZ : (T (p + 1)).size ≤ 8 + 30 * (p + 1) := by
              have h1 : (T (p + 1)).size = (T p).size + (1 + (Lib.itoa m).length) := by
                rw [← hE, ByteArray.size_append, ByteArray.size_append]
                rfl
              have := Hts.out
              omega
            have HE := Lib.hid hE
            have HZ := Lib.hid hZ
            clear hE hZ hl1
            go_wp2_with (first
              | (go_at_call 38; refine (Itoa_any m (by have := HBD.out.2.2; split at this <;> omega) (by have := HBD.out.2.2; split at this <;> omega) _ hS3.out).mono ?_; rintro e W4 ⟨rfl, hf4⟩; have Hf4 := Lib.hid hf4; clear hf4)
              | fail)
            go_roundg (F.size - (p + 1))
            case measure => have := Hp.out; omega
            case rel => exact ⟨p + 1, by have := Hp.out; omega, (Hf4.out.block _ (Array.getElem?_eq_some_iff.1 Hit3.out).1 (by simp)).trans Hit3.out, by rw [HE.out], HZ.out, Hf3.out.trans Hf4.out⟩
      · have hnx : ∀ ty, (Instr.next (.pointer (some ⟨wc.heap.size, 0, none⟩)) true ty).run Tryz.prog wr = .ok (.tuple #[.bool false]) wr := fun ty => Lib.run_next_end_at wr wc.heap.size F p ty hit hlt
        have hpe : p = F.size := by omega
        have HPE := Lib.hid hpe
        have Hf := Lib.hid hf
        clear hp hit hf hpe
        go_wp2_with fail
        all_goals
          exact bodyPost_ret (v := .tuple #[.string (T p), .int .i64 0]) (results_tmp2 Tryz.results40 _ _ _) rfl ⟨by rw [HPE.out, HTe.out], H2.out.trans Hf.out⟩
end Go.Proofs.YtbmaecdlkchkeaaGreatDoor
namespace Go.Proofs.YtbmaecdlkchkeaaGreatDoor
open Go.RowKit Go.Maps
set_option linter.unusedVariables false
set_option linter.unusedSimpArgs false
set_option maxRecDepth 100000
theorem or64 (x y : Nat) (hx : x < 4294967296) (hy : y < 4294967296) : bits .or .i64 (x : Int) (y : Int) = ((x ||| y : Nat) : Int) := by
  have hxy : x ||| y < 4294967296 := Nat.or_lt_two_pow (n := 32) hx hy
  show IntKind.i64.wrap (((BitVec.ofInt 64 (x : Int) ||| BitVec.ofInt 64 (y : Int)).toNat : Nat) : Int) = _
  rw [BitVec.toNat_or, BitVec.ofInt_natCast, BitVec.ofInt_natCast, BitVec.toNat_ofNat, BitVec.toNat_ofNat, Nat.mod_eq_of_lt (by omega), Nat.mod_eq_of_lt (by omega)]
  exact IntWalk.i64_in _ (by omega)
theorem orw (a b c d : Nat) (ha : a < 256) (hb : b < 256) (hc : c < 256) (hd : d < 256) :
    ∃ y1 y2, bits .or .i64 ((a : Int) * 16777216) ((b : Int) * 65536) = y1 ∧ bits .or .i64 y1 ((c : Int) * 256) = y2 ∧ bits .or .i64 y2 (d : Int) = ((a * 16777216 + b * 65536 + c * 256 + d : Nat) : Int) := by
  have e1 : a * 16777216 ||| b * 65536 = a * 16777216 + b * 65536 := by
    rw [Nat.mul_comm a]
    exact (Nat.two_pow_add_eq_or_of_lt (i := 24) (by omega) a).symm
  have e2 : (a * 16777216 + b * 65536) ||| c * 256 = a * 16777216 + b * 65536 + c * 256 := by
    have h := (Nat.two_pow_add_eq_or_of_lt (i := 16) (b := c * 256) (by omega) (a * 256 + b)).symm
    rw [show a * 16777216 + b * 65536 = 2 ^ 16 * (a * 256 + b) by omega]
    exact h
  have e3 : (a * 16777216 + b * 65536 + c * 256) ||| d = a * 16777216 + b * 65536 + c * 256 + d := by
    have h := (Nat.two_pow_add_eq_or_of_lt (i := 8) (b := d) (by omega) (a * 65536 + b * 256 + c)).symm
    rw [show a * 16777216 + b * 65536 + c * 256 = 2 ^ 8 * (a * 65536 + b * 256 + c) by omega]
    exact h
  refine ⟨((a * 16777216 + b * 65536 : Nat) : Int), ((a * 16777216 + b * 65536 + c * 256 : Nat) : Int), ?_, ?_, ?_⟩
  · rw [show (a : Int) * 16777216 = ((a * 16777216 : Nat) : Int) by omega, show (b : Int) * 65536 = ((b * 65536 : Nat) : Int) by omega, or64 _ _ (by omega) (by omega), e1]
  · rw [show (c : Int) * 256 = ((c * 256 : Nat) : Int) by omega, or64 _ _ (by omega) (by omega), e2]
  · rw [or64 _ _ (by omega) (by omega), e3]
theorem word_or (a b c d : UInt8) : bits .or .i64 (bits .or .i64 (bits .or .i64 (wrap64 (wrap64 (a.toNat : Int) * 16777216)) (wrap64 (wrap64 (b.toNat : Int) * 65536))) (wrap64 (wrap64 (c.toNat : Int) * 256))) (IntKind.i64.wrap (d.toNat : Int)) = ((a.toNat * 16777216 + b.toNat * 65536 + c.toNat * 256 + d.toNat : Nat) : Int) := by
  have ba := a.toNat_lt
  have bb := b.toNat_lt
  have bc := c.toNat_lt
  have bd := d.toNat_lt
  generalize a.toNat = a at *
  generalize b.toNat = b at *
  generalize c.toNat = c at *
  generalize d.toNat = d at *
  obtain ⟨y1, y2, o1, o2, o3⟩ := orw a b c d ba bb bc bd
  have w0 : ∀ z : Int, 0 ≤ z → z < 9223372036854775808 → wrap64 z = z := fun z h1 h2 => by unfold wrap64; omega
  have w1 : IntKind.i64.wrap (d : Int) = (d : Int) := IntWalk.i64_in _ (by omega)
  rw [w1, w0 (a : Int) (by omega) (by omega), w0 (b : Int) (by omega) (by omega), w0 (c : Int) (by omega) (by omega), w0 _ (by omega) (by omega), w0 _ (by omega) (by omega), w0 _ (by omega) (by omega), o1, o2, o3]
theorem calls_int {P : Program} {f : Nat} {n m : Int} {w : World} {Q : Ending → World → Prop} (h : n = m) (k : Calls P f #[.int .i64 m] w Q) : Calls P f #[.int .i64 n] w Q := h ▸ k
theorem bget {S : ByteArray} {l : List UInt8} (h : S.data.toList = l) {i : Nat} {b : UInt8} (hb : l[i]? = some b) : ∀ h', (S[i]'h').toNat = b.toNat := by
  intro h'
  have e : S.data.toList[i]? = some (S[i]'h') := List.getElem?_eq_getElem (by exact h')
  rw [h, hb] at e
  injection e with e
  rw [e]
theorem bcat (x y : List UInt8) : (⟨x.toArray⟩ : ByteArray) ++ ⟨y.toArray⟩ = ⟨(x ++ y).toArray⟩ := bext (by simp)
theorem lineOf_some {x : W4} {i : In} (h : decL x = some i) : lineOf x = textL i [] i.op.toNat := by unfold lineOf; rw [h]
theorem lineOf_none {x : W4} (h : decL x = none) : lineOf x = [119, 111, 114, 100, 32] ++ Lib.decDigits x.n := by unfold lineOf; rw [h]
set_option maxHeartbeats 8000000 in
theorem List_any (s : ByteArray) (w : World) (hw : Std w) : Calls Tryz.prog 9 #[.string s] w fun e w' => e = .returned (.tuple #[.string ⟨(listP s.data.toList).1.toArray⟩, .int .i64 (listP s.data.toList).2]) ∧ Fr [] w w' := by
  have hsz : s.data.toList.length = s.size := rfl
  by_cases hbig : 4096 < s.size
  · have hR : listP s.data.toList = ([], 94) := by unfold listP; rw [if_pos (by omega)]
    rw [hR]
    have hb2 : (4096 : Int) < (s.size : Int) := by omega
    clear hR hbig
    go_enter Tryz.func9, Tryz.ntmps9
    go_wp2
    go_ret2
    exact ⟨rfl, Fr.refl _ _⟩
  · have hb2 : ¬ (4096 : Int) < (s.size : Int) := by omega
    have hmod : Int.tmod (s.size : Int) 4 = ((s.size % 4 : Nat) : Int) := by
      rw [Int.tmod_eq_emod_of_nonneg (by omega)]
      omega
    by_cases hm : s.size % 4 ≠ 0
    · have hR : listP s.data.toList = ([], 91) := by unfold listP; rw [if_neg (by omega), if_pos (by omega)]
      rw [hR]
      have hq : (((s.size % 4 : Nat) : Int) != 0) = true := by rw [bne_iff_ne]; omega
      generalize ((s.size % 4 : Nat) : Int) = M at *
      clear hR hbig hm
      go_enter Tryz.func9, Tryz.ntmps9
      go_wp2
      go_ret2
      exact ⟨rfl, Fr.refl _ _⟩
    · have hR : listP s.data.toList = (rowsB (chunks s.data.toList), 0) := by unfold listP; rw [if_neg (by omega), if_neg (by omega)]
      have hq : (((s.size % 4 : Nat) : Int) != 0) = false := by rw [bne_eq_false_iff_eq]; omega
      generalize ((s.size % 4 : Nat) : Int) = M at *
      obtain ⟨N, hN⟩ : ∃ N, s.size = 4 * N := ⟨s.size / 4, by omega⟩
      rw [hR]
      have HStd := Lib.hid hw
      have HN1 : Hid (N ≤ 1024) := Lib.hid (by omega)
      have hl0 : s.data.toList.length = 4 * N := by omega
      have hs0 : s = ⟨s.data.toList.toArray⟩ := rfl
      have HS0 := Lib.hid hs0
      have HL0 := Lib.hid hl0
      clear hR hm hw hs0 hN hl0
      generalize s.data.toList = L at *
      go_enter Tryz.func9, Tryz.ntmps9
      go_wp2_with fail
      have HBd := Lib.hid (Bld.made w)
      have HFW : Hid (Fr [] w (w.alloc (.cells #[.pointer none, .slice none 0 0] 66))) := Lib.hid ((Fr.refl [] w).alloc _)
      go_loopg [0] N (fun gg x wr => ∃ (rest out : List UInt8), x = .string ⟨rest.toArray⟩ ∧ rest.length = 4 * gg ∧ gg ≤ N ∧ rowsB (chunks L) = out ++ rowsB (chunks rest) ∧ out.length ≤ 30 * (N - gg) ∧ Bld wr w.heap.size out ∧ Fr [] w wr)
      case atStart => exact ⟨L, [], by rw [← HS0.out], HL0.out, Nat.le_refl _, rfl, by simp, HBd.out, HFW.out⟩
      case round =>
        obtain ⟨rest, out, rfl, hr4, hgN, hrow, hol, hbd, hf⟩ := hrel
        have Hr4 := Lib.hid hr4
        have HgN := Lib.hid hgN
        have Hrow := Lib.hid hrow
        have Hol := Lib.hid hol
        have Hbd := Lib.hid hbd
        have Hf := Lib.hid hf
        match rest, hr4 with
        | [], hr4 =>
          have hg0 : gk = 0 := by simp at hr4; omega
          subst hg0
          have HX : Hid (rowsB (chunks L) = out) := Lib.hid (by rw [hrow]; exact List.append_nil _)
          have hBw : w.heap.size ≤ wr.heap.size := hf.size
          clear hr4 hgN hrow hol hbd hf
          go_wp2_with (first
            | (go_at_call 28; refine (Tryz.Builder_String_any w.heap.size w.heap.size out _ Hbd.out hBw).mono ?_; rintro e w5 ⟨rfl, hbe⟩; have F6 := Lib.hid (Hf.out.below_new hbe); clear hbe)
            | fail)
          go_ret2
          refine ⟨?_, F6.out⟩
          rw [HX.out]
          rfl
        | [a], hr4 => exfalso; simp at hr4; omega
        | [a, b], hr4 => exfalso; simp at hr4; omega
        | [a, b, c], hr4 => exfalso; simp at hr4; omega
        | a :: b :: c :: d :: r, hr4 =>
          obtain ⟨g, rfl⟩ : ∃ g, gk = g + 1 := ⟨gk - 1, by simp at hr4; omega⟩
          have hr4' : r.length = 4 * g := by simp at hr4; omega
          have Hr5 := Lib.hid hr4'
          obtain ⟨x, hx⟩ : ∃ x : W4, x = ⟨a, b, c, d⟩ := ⟨_, rfl⟩
          have hxl : x.l = [a, b, c, d] := by rw [hx]; rfl
          have hxn : x.n = a.toNat * 16777216 + b.toNat * 65536 + c.toNat * 256 + d.toNat := by rw [hx]; rfl
          have hrow2 : rowsB (chunks L) = (out ++ (lineOf x ++ [10])) ++ rowsB (chunks r) := by
            rw [hrow, hx, List.append_assoc]
            rfl
          have HX := Lib.hid hrow2
          have hll := line_len x
          have Hll := Lib.hid hll
          obtain ⟨S, hS⟩ : ∃ S : ByteArray, (⟨(a :: b :: c :: d :: r).toArray⟩ : ByteArray) = S := ⟨_, rfl⟩
          have hSl : S.data.toList = a :: b :: c :: d :: r := by rw [← hS]
          have hSs : S.size = 4 * (g + 1) := by
            have h : S.data.toList.length = S.size := rfl
            rw [← h, hSl]
            simp only [List.length_cons]
            omega
          have h0 := bget hSl (i := 0) rfl
          have h1 := bget hSl (i := 1) rfl
          have h2 := bget hSl (i := 2) rfl
          have h3 := bget hSl (i := 3) rfl
          have k0 : 0 < S.size := by omega
          have k1 : 1 < S.size := by omega
          have k2 : 2 < S.size := by omega
          have k3 : 3 < S.size := by omega
          have q0 : (0 : Int) < (S.size : Int) := by omega
          have q1 : (1 : Int) < (S.size : Int) := by omega
          have q2 : (2 : Int) < (S.size : Int) := by omega
          have q3 : (3 : Int) < (S.size : Int) := by omega
          have k4 : (4 : Int) ≤ (S.size : Int) := by omega
          have k5 : 4 ≤ S.size := by omega
          have hx0 : S.extract 0 4 = ⟨x.l.toArray⟩ := bext (by rw [hxl, Lib.extract_from_zero, hSl]; rfl)
          have hx4 : S.extract 4 S.size = ⟨r.toArray⟩ := bext (by rw [Lib.extract_to_end, hSl]; rfl)
          have hE1 : S.toList.isEmpty = false := by rw [ByteArray.toList_eq, hSl]; rfl
          have hE2 : (S.toList == []) = false := by rw [ByteArray.toList_eq, hSl]; rfl
          have hE3 : (S.toList != []) = true := by rw [ByteArray.toList_eq, hSl]; rfl
          rw [hS]
          have ba := a.toNat_lt
          have bb := b.toNat_lt
          have bc := c.toNat_lt
          have bd := d.toNat_lt
          have hY := word_or a b c d
          rw [← hxn] at hY
          have hwq : ∀ z : Int, wrap64 z = IntKind.i64.wrap z := fun z => (IntWalk.i64_left z).symm
          simp only [hwq] at hY
          have HY := Lib.hid hY
          have HWQ := Lib.hid hwq
          clear hY hwq
          have hdn := x.n_lt
          have HIt : Hid (∀ W, Std W → Calls Tryz.prog 38 #[.int .i64 (x.n : Int)] W fun e w' => e = .returned (.string ⟨(Lib.decDigits x.n).toArray⟩) ∧ Fr [] W w') := Lib.hid (fun W hW => by
            have h := Itoa_any (x.n : Int) (by omega) (by omega) W hW
            rw [itoa_nat] at h
            exact h)
          have hdl : (Lib.decDigits x.n).length ≤ 10 := by
            have e10 : (10 : Nat) ^ 10 = 10000000000 := by decide
            exact (decDigits_len (u := x.n) (k := 10) (by omega)).2 (by omega)
          have l1 : ¬ 9223372036854775807 < 5 + (Lib.decDigits x.n).length := by omega
          have c1 : (⟨#[119, 111, 114, 100, 32]⟩ : ByteArray) ++ ⟨(Lib.decDigits x.n).toArray⟩ = ⟨([119, 111, 114, 100, 32] ++ Lib.decDigits x.n).toArray⟩ := bcat _ _
          have hDc := dec_tie x
          have HDec := Lib.hid (fun W => Decode_any ⟨x.l.toArray⟩ W)
          have kk0 : Fr [] wr wr.drew := (Fr.refl [] wr).drew
          have HSt := Lib.hid (HStd.out.fr hf)
          have HBw : Hid (w.heap.size ≤ wr.heap.size) := Lib.hid hf.size
          have HN2 := HN1.out
          have hol2 : out.length ≤ 30720 := by omega
          have HO := Lib.hid hol2
          clear hol2 hr4' hxl hrow2 hSl hS hSs hx hxn hll hrow hol hbd hf hgN hdn hdl ba bb bc bd
          have HDc := Lib.hid hDc
          clear hDc
          generalize hWL : [119, 111, 114, 100, 32] ++ Lib.decDigits x.n = WL at *
          have HWL := Lib.hid hWL
          clear hWL
          go_upto_region 8 with (fail)
          go_cut [5] (fun v5 wx => v5 = .string ⟨WL.toArray⟩ ∧ Fr [] wr wx)
          case first =>
            go_region_held3 (fun W => Fr [] wr W) (first | exact kk0 | exact kk | assumption) (first
              | (go_at_call 38; refine calls_int (m := (x.n : Int)) (by (have hwq := HWQ.out; (try simp only [hwq]); exact HY.out)) ?_; refine (HIt.out _ (HSt.out.fr (by assumption))).mono ?_; rintro e w2 ⟨rfl, hf2⟩; have kk : Fr [] wr w2 := Fr.trans (by assumption) hf2))
            all_goals
              go_wp2_with fail
              go_meet
              exact ⟨rfl, by assumption⟩
          case rest =>
          obtain ⟨rfl, hf2⟩ := hcut
          have HF2 := Lib.hid hf2
          clear hf2
          have HDec2 := HDec
          cases hd : decL x with
          | none =>
            have hDc := HDc.out
            rw [hd] at hDc
            rw [hDc] at HDec2
            have hln : lineOf x = WL := by rw [lineOf_none hd]; exact HWL.out
            have HLn := Lib.hid hln
            have Hl9 : Hid ((lineOf x).length ≤ 29) := Hll
            rw [hln] at Hl9
            have l2 : ¬ 9223372036854775807 < WL.length + 1 := by have := Hl9.out; omega
            have c2 : (⟨WL.toArray⟩ : ByteArray) ++ ⟨#[10]⟩ = ⟨(WL ++ [10]).toArray⟩ := bcat _ [10]
            clear hd hDc hln
            have HDec : Hid (∀ W, Calls Tryz.prog 39 #[.string ⟨x.l.toArray⟩] W fun e w' => e = .returned (.tuple #[.agg #[.int .i64 0, .int .i64 0, .int .i64 0, .int .i64 0], .int .i64 91]) ∧ Fr [] W w') := HDec2
            clear HDec2
            go_wp2_with (first
              | (go_at_call 39; refine (HDec.out _).mono ?_; rintro e w4 ⟨rfl, hf4⟩; have G4 := Lib.hid ((HF2.out.trans hf4).alloc (.cells #[.int .i64 0, .int .i64 0, .int .i64 0, .int .i64 0] 55)); clear hf4)
              | (go_at_call 23; refine (Write_any w.heap.size out (WL ++ [10]) _ (Hbd.out.fr G4.out) (by rw [List.length_append]; have := HO.out; have := Hl9.out; simp only [List.length_cons, List.length_nil]; omega) (by have := HBw.out; have := G4.out.size; omega)).mono ?_; rintro e w6 ⟨rfl, hbd6, hbe6⟩; have B6 := Lib.hid hbd6; have F6 := Lib.hid ((Hf.out.trans G4.out).below_new hbe6); clear hbd6 hbe6)
              | fail)
            go_roundg g
            case measure => omega
            case rel => exact ⟨r, out ++ (WL ++ [10]), rfl, Hr5.out, by have := HgN.out; omega, by rw [HX.out, HLn.out], by rw [List.length_append, List.length_append]; have := Hol.out; have := Hl9.out; have := HgN.out; simp only [List.length_cons, List.length_nil]; omega, B6.out, F6.out⟩
          | some i =>
            have hDc := HDc.out
            rw [hd] at hDc
            rw [hDc] at HDec2
            obtain ⟨k, hk, hop, hok, -⟩ := decL_some hd
            have hln : lineOf x = textL i [] k := by rw [lineOf_some hd, hop]; rfl
            obtain ⟨io, ia, ib, im⟩ := i
            simp only at hop
            subst hop
            have HLn := Lib.hid hln
            have Hl9 : Hid ((lineOf x).length ≤ 29) := Hll
            rw [hln] at Hl9
            have HPr := Lib.hid (fun W hW => Print_good ⟨k, ia, ib, im⟩ k hk rfl hok W hW)
            have HDec : Hid (∀ W, Calls Tryz.prog 39 #[.string ⟨x.l.toArray⟩] W fun e w' => e = .returned (.tuple #[.agg #[.int .i64 (k : Int), .int .i64 ia, .int .i64 ib, .int .i64 im], .int .i64 0]) ∧ Fr [] W w') := HDec2
            clear HDec2
            generalize hTL : textL ⟨k, ia, ib, im⟩ [] k = TL at *
            have l2 : ¬ 9223372036854775807 < TL.length + 1 := by have := Hl9.out; omega
            have c2 : (⟨TL.toArray⟩ : ByteArray) ++ ⟨#[10]⟩ = ⟨(TL ++ [10]).toArray⟩ := bcat _ [10]
            clear hd hDc hln hTL hok hk
            go_wp2_with (first
              | (go_at_call 39; refine (HDec.out _).mono ?_; rintro e w4 ⟨rfl, hf4⟩; have G4 := Lib.hid ((HF2.out.trans hf4).alloc (.cells #[.int .i64 (k : Int), .int .i64 ia, .int .i64 ib, .int .i64 im] 55)); clear hf4; have B4 := Lib.hid (Blk.new w4 55 #[.int .i64 (k : Int), .int .i64 ia, .int .i64 ib, .int .i64 im]); have c3 : (w4.alloc (.cells #[.int .i64 (k : Int), .int .i64 ia, .int .i64 ib, .int .i64 im] 55)).cell? ⟨w4.heap.size, 0, none⟩ = some (.int .i64 (k : Int)) := B4.out.cell 0; have c4 : (w4.alloc (.cells #[.int .i64 (k : Int), .int .i64 ia, .int .i64 ib, .int .i64 im] 55)).cell? ⟨w4.heap.size, 1, none⟩ = some (.int .i64 ia) := B4.out.cell 1; have c5 : (w4.alloc (.cells #[.int .i64 (k : Int), .int .i64 ia, .int .i64 ib, .int .i64 im] 55)).cell? ⟨w4.heap.size, 2, none⟩ = some (.int .i64 ib) := B4.out.cell 2; have c6 : (w4.alloc (.cells #[.int .i64 (k : Int), .int .i64 ia, .int .i64 ib, .int .i64 im] 55)).cell? ⟨w4.heap.size, 3, none⟩ = some (.int .i64 im) := B4.out.cell 3)
              | (go_at_call 40; refine (HPr.out _ (HSt.out.fr G4.out)).mono ?_; rintro e w5 ⟨rfl, hf5⟩; have G5 := Lib.hid (G4.out.trans hf5); clear hf5)
              | (go_at_call 23; refine (Write_any w.heap.size out (TL ++ [10]) _ (Hbd.out.fr G5.out) (by rw [List.length_append]; have := HO.out; have := Hl9.out; simp only [List.length_cons, List.length_nil]; omega) (by have := HBw.out; have := G5.out.size; omega)).mono ?_; rintro e w6 ⟨rfl, hbd6, hbe6⟩; have B6 := Lib.hid hbd6; have F6 := Lib.hid ((Hf.out.trans G5.out).below_new hbe6); clear hbd6 hbe6)
              | fail)
            go_roundg g
            case measure => omega
            case rel => exact ⟨r, out ++ (TL ++ [10]), rfl, Hr5.out, by have := HgN.out; omega, by rw [HX.out, HLn.out], by rw [List.length_append, List.length_append]; have := Hol.out; have := Hl9.out; have := HgN.out; simp only [List.length_cons, List.length_nil]; omega, B6.out, F6.out⟩
end Go.Proofs.YtbmaecdlkchkeaaGreatDoor

/- The document's parse. (Printed by genz11.py.) -/
import Derived.Test.YtjijhjdemkgpgaaGreatDoorZ10
namespace Go.Proofs.YtjijhjdemkgpgaaGreatDoor
open Go.RowKit
set_option linter.unusedVariables false
set_option linter.unusedSimpArgs false
set_option maxRecDepth 100000
theorem lab_call (s : ByteArray) (hs : s.size ≤ 281474976710656) {o : Bool} (ho : isLab s.data.toList = o) (w : World) : Calls Tryz.prog 42 #[.string s] w fun e w' => e = .returned (.bool o) ∧ w = w' := by
  have h := rLabel_any s hs w
  rw [ho] at h
  exact h
theorem add0 (g j : Nat) : (⟨g, 0, none⟩ : Addr).add j = ⟨g, j, none⟩ := by unfold Addr.add; split <;> simp_all
theorem splitC_mlen (L : List UInt8) : ∀ x, x ∈ splitC 32 L → x.length ≤ L.length := by
  induction L with
  | nil => intro x hx; simp [splitC] at hx; simp [hx]
  | cons b r ih =>
    intro x hx
    unfold splitC at hx
    by_cases hb : b = 32
    · rw [if_pos hb] at hx
      rcases List.mem_cons.1 hx with rfl | hx
      · simp
      · have := ih x hx
        simp only [List.length_cons]
        omega
    · rw [if_neg hb] at hx
      cases hs : splitC 32 r with
      | nil =>
        rw [hs] at hx
        simp at hx
        rw [hx]
        simp
      | cons h t =>
        rw [hs] at hx ih
        rcases List.mem_cons.1 hx with rfl | hx
        · have := ih h (by simp)
          simp only [List.length_cons]
          omega
        · have := ih x (by simp [hx])
          simp only [List.length_cons]
          omega
theorem own_form9 {w : World} {B e n : Nat} {v : Value} {xs : List Value} (h : w.ownsRow B e 1 v n xs) (hv : v ≠ .slice none 0 0) : ∃ g cap, v = .slice (some ⟨g, 0, none⟩) n cap ∧ ∀ j u, xs[j]? = some u → w.cell? ((⟨g, 0, none⟩ : Addr).add j) = some u := by
  have h0 := h
  rcases h.2 with ⟨rfl, -⟩ | ⟨g, cap, cur, rfl, -⟩
  · exact absurd rfl hv
  · exact ⟨g, cap, rfl, h0.cells rfl⟩
set_option maxHeartbeats 16000000 in
theorem rparse_any (s : ByteArray) (lab : Bool) (hs : s.size ≤ 4294967280) (w : World) : Calls Tryz.prog 30 #[.string s, .bool lab] w fun e w' => e = .returned (.tuple #[(readR lab s.data.toList).1.v, .string ⟨(readR lab s.data.toList).2.1.toArray⟩, .bool (readR lab s.data.toList).2.2]) ∧ Fr [] w w' := by
  obtain ⟨w0, vs, hsp, -, -, -⟩ := splitC_join 32 s.data.toList
  have hSz : s.data.toList.length = s.size := rfl
  have HWo := Lib.hid (fun W => rWords_any s hs W)
  have HV : Hid (readR lab s.data.toList = match opU w0 30 with
    | none => (I00, [], false)
    | some k => if vs.length = (fmL k).length then finR k (fieldsG rdR rmR lab k (fmL k) vs ⟨k, 0, 0, 0⟩ []) else (I00, [], false)) := Lib.hid (by unfold readR; rw [hsp]; rfl)
  have HLen : Hid (∀ x, x ∈ (w0 :: vs) → x.length ≤ 4294967280) := Lib.hid (fun x hx => by
    have h := splitC_mlen s.data.toList x (by rw [hsp]; exact hx)
    omega)
  have HSl : Hid ((w0 :: vs).length ≤ 4294967281) := Lib.hid (by have h := splitC_lenle s.data.toList; rw [hsp] at h; omega)
  rw [hsp] at HWo
  obtain ⟨RV, hRV⟩ : ∃ RV, RV = readR lab s.data.toList := ⟨_, rfl⟩
  rw [← hRV] at HV ⊢
  clear hRV hSz hsp
  have HBz := Lib.hid (Blk.new w 23 Z4)
  have HFz : Hid (Fr [] w (w.alloc (.cells Z4 23))) := Lib.hid ((Fr.refl [] w).alloc _)
  have HNm := Lib.hid (fun k hk W => rName_any k hk W)
  have HN30 : Hid (∀ W, Calls Tryz.prog 26 #[.int .i64 30] W fun e w' => e = .returned (.string ⟨#[]⟩) ∧ Fr [] W w') := Lib.hid (fun W => rName_no 30 (.inr (by omega)) W)
  have hZ : Hid (∀ n, (((⟨(nmL n).toArray⟩ : ByteArray).toList == w0) = decide (nmL n = w0))) := Lib.hid (fun n => bw_eq _ _)
  clear hs
  go_enter Tryz.func30, Tryz.ntmps30
  go_wp2_with (first
    | (go_at_call 50; refine (HWo.out _).mono ?_; rintro e w1 ⟨v, rfl, ho, hne, hf⟩; have HOw := Lib.hid ho; have HNe := Lib.hid hne; have HF1 := Lib.hid hf; clear ho hne hf)
    | fail)
  obtain ⟨g, cp, rfl, hc⟩ := own_form9 HOw.out HNe.out
  have HC : Hid (∀ (j : Nat) (x : List UInt8), (w0 :: vs)[j]? = some x → ∀ W, Fr [] w1 W → W.cell? ⟨g, j, none⟩ = some (.string ⟨x.toArray⟩)) := Lib.hid (fun j x hx W hW => by
    have h := hc j (.string ⟨x.toArray⟩) (by unfold sW; rw [List.getElem?_map, hx]; rfl)
    rw [add0] at h
    exact hW.cell_some h (by simp))
  have HZ1 := Lib.hid (HBz.out.fr HF1.out (by simp))
  have HFz1 := Lib.hid (HFz.out.trans HF1.out)
  have HB1 := Lib.hid (Blk.new w1 23 #[.int .i64 (-1), .int .i64 0, .int .i64 0, .int .i64 0])
  have HF2 : Hid (Fr [] w1 (w1.alloc (.cells #[.int .i64 (-1), .int .i64 0, .int .i64 0, .int .i64 0] 23))) := Lib.hid ((Fr.refl [] w1).alloc _)
  have HLt : Hid (w.heap.size < w1.heap.size) := Lib.hid HZ1.out.lt
  generalize hNw : (w0 :: vs).length = NW at *
  have HNw := Lib.hid hNw
  have hN0 : (0 : Int) < (NW : Int) := by rw [← hNw, List.length_cons]; omega
  have hN1 : 0 < NW := by omega
  have HOb : Hid (NW ≤ 4294967281) := Lib.hid (by exact HSl.out)
  clear hc HOw HNe HBz HFz hNw
  go_loopg [9] 30 (fun gg v9 wr => ∃ n : Nat, n + gg = 30 ∧ v9 = .int .i64 (n : Int) ∧ Blk wr w1.heap.size 23 #[.int .i64 (opJ (opU w0 n)), .int .i64 0, .int .i64 0, .int .i64 0] ∧ Fr [] w1 wr)
  case atStart => exact ⟨0, rfl, rfl, HB1.out, HF2.out⟩
  case round =>
    obtain ⟨n, hn, rfl, hb, hf⟩ := hrel
    have Hn := Lib.hid hn
    have Hb := Lib.hid hb
    have Hf := Lib.hid hf
    by_cases hlt : n < 30
    · have hne := nm_some n hlt
      have hne2 : ((nm n).toList != []) = true := by
        cases h : (nm n).toList with
        | nil => rw [h] at hne; cases hne
        | cons a b => rfl
      have HNn := Lib.hid (fun W => HNm.out n hlt W)
      obtain ⟨B, hB⟩ : ∃ B, decide (nmL n = w0) = B := ⟨_, rfl⟩
      have hz : ((nm n).toList == w0) = B := (hZ.out n).trans hB
      have HBq := Lib.hid hB
      clear hB
      have hwk : IntKind.i64.wrap ((n : Int) + 1) = (n : Int) + 1 := IntWalk.i64_in _ (by omega)
      generalize nm n = NM at *
      clear hn hb hf
      go_upto_region 6 with (first
        | (go_at_call 26; refine (HNn.out _).mono ?_; rintro e w2 ⟨rfl, hf⟩; have HB2 := Lib.hid (Hb.out.fr hf (by simp)); have HF3 := Lib.hid (Hf.out.trans hf); clear hf)
        | fail)
      go_cut [32] (fun v32 wx => v32 = .bool B ∧ Fr [] w2 wx)
      case first =>
        have c0 := HC.out 0 w0 rfl w2 HF3.out
        go_region_law (first
          | (go_simp; go_at_call 26; refine (HNn.out _).mono ?_; rintro e w3 ⟨rfl, hf⟩; have hz3 : Fr [] w2 w3 := (Fr.refl [] w2).drew.trans hf; have c9 := hz3.cell_some c0 (by simp); have HZ := Lib.hid hz3; clear hf hz3)
          | fail)
        all_goals
          go_wp2_with fail
          go_meet
          exact ⟨rfl, HZ.out⟩
      case rest =>
        obtain ⟨rfl, hfc⟩ := hcut
        have HBc := Lib.hid (HB2.out.fr hfc (by simp))
        have HFc := Lib.hid (HF3.out.trans hfc)
        have f0 := HBc.out.frozen 0
        have e0 : wc.cell? ⟨w1.heap.size, 0, none⟩ = some (.int .i64 (opJ (opU w0 n))) := HBc.out.cell 0
        clear hfc
        cases B with
        | true =>
          have HE : Hid (opU w0 (n + 1) = some n) := Lib.hid (if_pos (of_decide_eq_true HBq.out))
          go_wp2_with fail
          go_roundg (30 - (n + 1))
          case measure => have := Hn.out; omega
          case rel => exact ⟨n + 1, by have := Hn.out; omega, by go_num, by rw [HE.out]; exact HBc.out.set_ 0 _, HFc.out.setCell (p := ⟨w1.heap.size, 0, none⟩) (Or.inr (Nat.le_refl _)) _⟩
        | false =>
          have HE : Hid (opU w0 (n + 1) = opU w0 n) := Lib.hid (if_neg (of_decide_eq_false HBq.out))
          go_wp2_with fail
          go_roundg (30 - (n + 1))
          case measure => have := Hn.out; omega
          case rel => exact ⟨n + 1, by have := Hn.out; omega, by go_num, by rw [HE.out]; exact HBc.out, HFc.out⟩
    · obtain rfl : n = 30 := by omega
      clear hn hb hf hlt Hn
      go_upto_region 8 with (first
        | (go_at_call 26; refine (HN30.out _).mono ?_; rintro e w2 ⟨rfl, hf⟩; have HB2 := Lib.hid (Hb.out.fr hf (by simp)); have HF3 := Lib.hid (Hf.out.trans hf); clear hf)
        | fail)
      have HZ2 := Lib.hid (HZ1.out.fr HF3.out (by simp))
      have HFz2 := Lib.hid (HFz1.out.trans HF3.out)
      have e0 : w2.cell? ⟨w1.heap.size, 0, none⟩ = some (.int .i64 (opJ (opU w0 30))) := HB2.out.cell 0
      cases hop : opU w0 30 with
      | none =>
        rw [hop] at HV e0
        have HRV : Hid (RV = (I00, [], false)) := HV
        have e9 : w2.cell? ⟨w1.heap.size, 0, none⟩ = some (.int .i64 (-1)) := e0
        clear hop e0
        have j0 := (HZ2.out.cell 0).trans rfl
        have j1 := (HZ2.out.cell 1).trans rfl
        have j2 := (HZ2.out.cell 2).trans rfl
        have j3 := (HZ2.out.cell 3).trans rfl
        have jf := HZ2.out.frozen
        go_wp2_with fail
        exact bodyPost_ret (v := .tuple #[.agg #[.int .i64 0, .int .i64 0, .int .i64 0, .int .i64 0], .string ⟨#[]⟩, .bool false]) (resP rfl rfl rfl (Blk.set4 HZ2.out _ _ _ _) rfl) rfl ⟨by rw [HRV.out]; rfl, Fr.set4 HFz2.out (Or.inr (Nat.le_refl _)) _ _ _ _⟩
      | some k =>
        rw [hop] at HV e0
        have hk := (opU_some hop).1
        have e9 : w2.cell? ⟨w1.heap.size, 0, none⟩ = some (.int .i64 (k : Int)) := e0
        clear e0
        have HB3 : Hid (Blk w2 w1.heap.size 23 #[.int .i64 (k : Int), .int .i64 0, .int .i64 0, .int .i64 0]) := by rw [hop] at HB2; exact HB2
        have hk0 : ¬ (k : Int) < 0 := by omega
        have HFm := Lib.hid (fun W => rForm_any k hk W)
        have HCk := Lib.hid (fun (i : In) (hi : i.op = (k : Int)) W => rCheck_in i k hk hi W)
        have HF8 := Lib.hid (fm_small k hk).1
        have hFl : (fm k).size = (fmL k).length := rfl
        have HFb : Hid (∀ (j : Nat) (b : UInt8), (fmL k)[j]? = some b → ∀ h, ((fm k)[j]'h).toNat = b.toNat) := Lib.hid (fun j b hb => bget (S := fm k) rfl hb)
        have hNl : (NW : Int) - 1 = ((vs.length : Nat) : Int) := by rw [← HNw.out, List.length_cons]; omega
        have hNl2 : IntKind.i64.wrap ((NW : Int) - 1) = (NW : Int) - 1 := IntWalk.i64_in _ (by
          have h := HOb.out
          omega)
        have hNl3 : wrap64 ((vs.length : Nat) : Int) = ((vs.length : Nat) : Int) := by
          have h := HOb.out
          have h2 : vs.length < 4294967282 := by omega
          unfold wrap64
          omega
        have HFl := Lib.hid hFl
        have HNl := Lib.hid hNl
        by_cases hl : vs.length = (fmL k).length
        · have HRV : Hid (RV = finR k (fieldsG rdR rmR lab k (fmL k) vs ⟨k, 0, 0, 0⟩ [])) := Lib.hid (HV.out.trans (if_pos hl))
          have hq : (((vs.length : Nat) : Int) != ((fm k).size : Int)) = false := by rw [bne_eq_false_iff_eq, hFl, hl]
          obtain ⟨FT, hFT⟩ : ∃ FT, fieldsG rdR rmR lab k (fmL k) vs ⟨k, 0, 0, 0⟩ [] = FT := ⟨_, rfl⟩
          rw [hFT] at HRV
          have HFT := Lib.hid hFT
          have HL := Lib.hid hl
          have HK := Lib.hid hk
          clear hFT hl hop hFl HV HB2 e9
          have e9 : w2.cell? ⟨w1.heap.size, 0, none⟩ = some (.int .i64 (k : Int)) := HB3.out.cell 0
          generalize fm k = F at *
          clear hk
          go_wp2_with (first | (go_at_call 28; refine (HFm.out _).mono ?_; rintro e w3 ⟨rfl, rfl⟩) | fail)
          clear e9
          go_loopg [11, 12] F.size (fun gg v11 v12 wr => ∃ (p : Nat) (x y z : Int) (lb : List UInt8), p + gg = F.size ∧ v12 = .int .i64 (p : Int) ∧ v11 = .string ⟨lb.toArray⟩ ∧ fieldsG rdR rmR lab k ((fmL k).drop p) (vs.drop p) ⟨k, x, y, z⟩ lb = FT ∧ Blk wr w1.heap.size 23 #[.int .i64 (k : Int), .int .i64 x, .int .i64 y, .int .i64 z] ∧ Fr [] w1 wr)
          case atStart => exact ⟨0, 0, 0, 0, [], by omega, rfl, rfl, HFT.out, HB3.out, HF3.out⟩
          case round =>
            obtain ⟨p, x, y, z, lb, hp, rfl, rfl, hF, hb, hf⟩ := hrel
            have Hp := Lib.hid hp
            have HBx := Lib.hid hb
            have Hf := Lib.hid hf
            have HZr := Lib.hid (HZ1.out.fr hf (by simp))
            have HFr := Lib.hid (HFz1.out.trans hf)
            by_cases hlt : p < F.size
            · have hlt1 : (p : Int) < (F.size : Int) := by omega
              have hp0 : (0 : Int) ≤ (p : Int) := by omega
              have hp8 : p < 8 := by have := HF8.out; omega
              have hwk : IntKind.i64.wrap ((p : Int) + 1) = (p : Int) + 1 := IntWalk.i64_in _ (by omega)
              have hp1 : (0 : Int) ≤ (p : Int) + 1 := by omega
              have hp2 : (p : Int) + 1 < (NW : Int) := by
                have h1 := HNl.out
                have h2 := HL.out
                have h3 := HFl.out
                omega
              have hp3 : ((p : Int) + 1).toNat = p + 1 := by omega
              obtain ⟨v, hv⟩ : ∃ v, vs[p]? = some v := ⟨_, List.getElem?_eq_getElem (by have := HFl.out; have := HL.out; omega)⟩
              obtain ⟨c, hc⟩ : ∃ c, (fmL k)[p]? = some c := ⟨_, List.getElem?_eq_getElem (by have := HFl.out; omega)⟩
              have c1 := HC.out (p + 1) v hv wr hf
              have hvl : v.length ≤ 4294967280 := HLen.out v (List.mem_cons_of_mem _ (List.mem_of_getElem? hv))
              rw [drop_at hc, drop_at hv] at hF
              have hcc := HFb.out p c hc
              obtain ⟨V, hV⟩ : ∃ V : ByteArray, V = ⟨v.toArray⟩ := ⟨_, rfl⟩
              rw [← hV] at c1
              have HV := Lib.hid hV
              have hVt : V.toList = v := by rw [hV]; exact Lib.toList_data _
              have hVs : V.size = v.length := by rw [hV]; rfl
              have hcm := fm_bytes k HK.out c (List.mem_of_getElem? hc)
              clear hp hb hf hv hV hc
              have hvc : v = [] ∨ ∃ b r, v = b :: r := by
                cases v with
                | nil => exact .inl rfl
                | cons b r => exact .inr ⟨b, r, rfl⟩
              rcases hcm with rfl | rfl | rfl | rfl
              · skip
                have hcc : ∀ h, (F[p]'h).toNat = 97 := hcc
                rcases hvc with rfl | ⟨b, r, rfl⟩
                · rw [fg_no (.inl rfl) (by simp)] at hF
                  subst hF
                  have h1 : V.toList.isEmpty = true := by rw [hVt]; rfl
                  have h2 : (V.toList == []) = true := by rw [hVt]; rfl
                  have h3 : (V.toList != []) = false := by rw [hVt]; rfl
                  clear hVs hvl hVt
                  have j0 := (HZr.out.cell 0).trans rfl
                  have j1 := (HZr.out.cell 1).trans rfl
                  have j2 := (HZr.out.cell 2).trans rfl
                  have j3 := (HZr.out.cell 3).trans rfl
                  have jf := HZr.out.frozen
                  go_wp2_with fail
                  exact bodyPost_ret (v := .tuple #[.agg #[.int .i64 0, .int .i64 0, .int .i64 0, .int .i64 0], .string ⟨#[]⟩, .bool false]) (resP rfl rfl rfl (Blk.set4 HZr.out _ _ _ _) rfl) rfl ⟨by rw [HRV.out]; rfl, Fr.set4 HFr.out (Or.inr (Nat.le_refl _)) _ _ _ _⟩
                · skip
                  have h1 : V.toList.isEmpty = false := by rw [hVt]; rfl
                  have h2 : (V.toList == []) = false := by rw [hVt]; rfl
                  have h2' : (V.toList != []) = true := by rw [hVt]; rfl
                  have h3 : 0 < V.size := by rw [hVs]; simp
                  have h4 : (0 : Int) < (V.size : Int) := by omega
                  have h5 : (1 : Int) ≤ (V.size : Int) := by omega
                  have hVd : V.data.toList = b :: r := by rw [← ByteArray.toList_eq]; exact hVt
                  have h6 := bget hVd (i := 0) rfl
                  have hx : V.extract 1 V.size = ⟨r.toArray⟩ := bext (by rw [Lib.extract_to_end, hVd]; rfl)
                  have hrl : r.length ≤ 281474976710656 := by rw [List.length_cons] at hvl; omega
                  by_cases hb : b = 114
                  · subst hb
                    have h6 : ∀ h, (V[0]'h).toNat = 114 := h6
                    rw [fg97] at hF
                    obtain ⟨RB, hRB⟩ : ∃ RB : ByteArray, RB = ⟨r.toArray⟩ := ⟨_, rfl⟩
                    rw [← hRB] at hx
                    cases hn : numR r with
                    | none =>
                      have hF : none = FT := by unfold rdR at hF; rw [hn] at hF; exact hF
                      subst hF
                      have HNum : Hid (∀ W, Calls Tryz.prog 41 #[.string RB] W fun e w' => e = .returned (.tuple #[.int .i64 0, .bool false]) ∧ W = w') := Lib.hid (fun W => by
                        have h := num_call RB (by rw [hRB]; exact hrl) (o := none) (by rw [hRB]; exact hn) W
                        exact h)
                      clear hVs hvl hVt hVd hn hRB
                      have j0 := (HZr.out.cell 0).trans rfl
                      have j1 := (HZr.out.cell 1).trans rfl
                      have j2 := (HZr.out.cell 2).trans rfl
                      have j3 := (HZr.out.cell 3).trans rfl
                      have jf := HZr.out.frozen
                      go_wp2_with (first | (go_at_call 41; refine (HNum.out _).mono ?_; rintro e w3 ⟨rfl, rfl⟩) | fail)
                      exact bodyPost_ret (v := .tuple #[.agg #[.int .i64 0, .int .i64 0, .int .i64 0, .int .i64 0], .string ⟨#[]⟩, .bool false]) (resP rfl rfl rfl (Blk.set4 HZr.out _ _ _ _) rfl) rfl ⟨by rw [HRV.out]; rfl, Fr.set4 HFr.out (Or.inr (Nat.le_refl _)) _ _ _ _⟩
                    | some n =>
                      have hF : fieldsG rdR rmR lab k ((fmL k).drop (p + 1)) (vs.drop (p + 1)) ⟨k, (n : Int), y, z⟩ lb = FT := by unfold rdR at hF; rw [hn] at hF; exact hF
                      have HF := Lib.hid hF
                      have HNum : Hid (∀ W, Calls Tryz.prog 41 #[.string RB] W fun e w' => e = .returned (.tuple #[.int .i64 (n : Int), .bool true]) ∧ W = w') := Lib.hid (fun W => by
                        have h := num_call RB (by rw [hRB]; exact hrl) (o := some n) (by rw [hRB]; exact hn) W
                        exact h)
                      clear hVs hvl hVt hVd hn hRB hF
                      have k0 : wr.cell? ⟨w1.heap.size, 0, none⟩ = some (.int .i64 (k : Int)) := HBx.out.cell 0
                      have k1 : wr.cell? ⟨w1.heap.size, 1, none⟩ = some (.int .i64 x) := HBx.out.cell 1
                      have k2 : wr.cell? ⟨w1.heap.size, 2, none⟩ = some (.int .i64 y) := HBx.out.cell 2
                      have k3 : wr.cell? ⟨w1.heap.size, 3, none⟩ = some (.int .i64 z) := HBx.out.cell 3
                      have kf := HBx.out.frozen
                      go_wp2_with (first | (go_at_call 41; refine (HNum.out _).mono ?_; rintro e w3 ⟨rfl, rfl⟩) | fail)
                      go_roundg (F.size - (p + 1))
                      case measure => have := Hp.out; omega
                      case rel => exact ⟨p + 1, (n : Int), y, z, lb, by have := Hp.out; omega, by go_num, rfl, HF.out, HBx.out.set_ 1 _, Hf.out.setCell (p := ⟨w1.heap.size, 1, none⟩) (Or.inr (Nat.le_refl _)) _⟩
                  · rw [fg_no (.inl rfl) (fun r' e => hb (by injection e))] at hF
                    subst hF
                    have hbn : ¬ (b.toNat : Int) = 114 := by
                      intro e
                      apply hb
                      apply UInt8.toNat_inj.1
                      show b.toNat = 114
                      omega
                    have hbn2 : ((b.toNat : Int) != 114) = true := bne_iff_ne.2 hbn
                    clear hVs hvl hVt hVd hb
                    have j0 := (HZr.out.cell 0).trans rfl
                    have j1 := (HZr.out.cell 1).trans rfl
                    have j2 := (HZr.out.cell 2).trans rfl
                    have j3 := (HZr.out.cell 3).trans rfl
                    have jf := HZr.out.frozen
                    go_wp2_with fail
                    exact bodyPost_ret (v := .tuple #[.agg #[.int .i64 0, .int .i64 0, .int .i64 0, .int .i64 0], .string ⟨#[]⟩, .bool false]) (resP rfl rfl rfl (Blk.set4 HZr.out _ _ _ _) rfl) rfl ⟨by rw [HRV.out]; rfl, Fr.set4 HFr.out (Or.inr (Nat.le_refl _)) _ _ _ _⟩
              · skip
                have hcc : ∀ h, (F[p]'h).toNat = 98 := hcc
                rcases hvc with rfl | ⟨b, r, rfl⟩
                · rw [fg_no (.inr rfl) (by simp)] at hF
                  subst hF
                  have h1 : V.toList.isEmpty = true := by rw [hVt]; rfl
                  have h2 : (V.toList == []) = true := by rw [hVt]; rfl
                  have h3 : (V.toList != []) = false := by rw [hVt]; rfl
                  clear hVs hvl hVt
                  have j0 := (HZr.out.cell 0).trans rfl
                  have j1 := (HZr.out.cell 1).trans rfl
                  have j2 := (HZr.out.cell 2).trans rfl
                  have j3 := (HZr.out.cell 3).trans rfl
                  have jf := HZr.out.frozen
                  go_wp2_with fail
                  exact bodyPost_ret (v := .tuple #[.agg #[.int .i64 0, .int .i64 0, .int .i64 0, .int .i64 0], .string ⟨#[]⟩, .bool false]) (resP rfl rfl rfl (Blk.set4 HZr.out _ _ _ _) rfl) rfl ⟨by rw [HRV.out]; rfl, Fr.set4 HFr.out (Or.inr (Nat.le_refl _)) _ _ _ _⟩
                · skip
                  have h1 : V.toList.isEmpty = false := by rw [hVt]; rfl
                  have h2 : (V.toList == []) = false := by rw [hVt]; rfl
                  have h2' : (V.toList != []) = true := by rw [hVt]; rfl
                  have h3 : 0 < V.size := by rw [hVs]; simp
                  have h4 : (0 : Int) < (V.size : Int) := by omega
                  have h5 : (1 : Int) ≤ (V.size : Int) := by omega
                  have hVd : V.data.toList = b :: r := by rw [← ByteArray.toList_eq]; exact hVt
                  have h6 := bget hVd (i := 0) rfl
                  have hx : V.extract 1 V.size = ⟨r.toArray⟩ := bext (by rw [Lib.extract_to_end, hVd]; rfl)
                  have hrl : r.length ≤ 281474976710656 := by rw [List.length_cons] at hvl; omega
                  by_cases hb : b = 114
                  · subst hb
                    have h6 : ∀ h, (V[0]'h).toNat = 114 := h6
                    rw [fg98] at hF
                    obtain ⟨RB, hRB⟩ : ∃ RB : ByteArray, RB = ⟨r.toArray⟩ := ⟨_, rfl⟩
                    rw [← hRB] at hx
                    cases hn : numR r with
                    | none =>
                      have hF : none = FT := by unfold rdR at hF; rw [hn] at hF; exact hF
                      subst hF
                      have HNum : Hid (∀ W, Calls Tryz.prog 41 #[.string RB] W fun e w' => e = .returned (.tuple #[.int .i64 0, .bool false]) ∧ W = w') := Lib.hid (fun W => by
                        have h := num_call RB (by rw [hRB]; exact hrl) (o := none) (by rw [hRB]; exact hn) W
                        exact h)
                      clear hVs hvl hVt hVd hn hRB
                      have j0 := (HZr.out.cell 0).trans rfl
                      have j1 := (HZr.out.cell 1).trans rfl
                      have j2 := (HZr.out.cell 2).trans rfl
                      have j3 := (HZr.out.cell 3).trans rfl
                      have jf := HZr.out.frozen
                      go_wp2_with (first | (go_at_call 41; refine (HNum.out _).mono ?_; rintro e w3 ⟨rfl, rfl⟩) | fail)
                      exact bodyPost_ret (v := .tuple #[.agg #[.int .i64 0, .int .i64 0, .int .i64 0, .int .i64 0], .string ⟨#[]⟩, .bool false]) (resP rfl rfl rfl (Blk.set4 HZr.out _ _ _ _) rfl) rfl ⟨by rw [HRV.out]; rfl, Fr.set4 HFr.out (Or.inr (Nat.le_refl _)) _ _ _ _⟩
                    | some n =>
                      have hF : fieldsG rdR rmR lab k ((fmL k).drop (p + 1)) (vs.drop (p + 1)) ⟨k, x, (n : Int), z⟩ lb = FT := by unfold rdR at hF; rw [hn] at hF; exact hF
                      have HF := Lib.hid hF
                      have HNum : Hid (∀ W, Calls Tryz.prog 41 #[.string RB] W fun e w' => e = .returned (.tuple #[.int .i64 (n : Int), .bool true]) ∧ W = w') := Lib.hid (fun W => by
                        have h := num_call RB (by rw [hRB]; exact hrl) (o := some n) (by rw [hRB]; exact hn) W
                        exact h)
                      clear hVs hvl hVt hVd hn hRB hF
                      have k0 : wr.cell? ⟨w1.heap.size, 0, none⟩ = some (.int .i64 (k : Int)) := HBx.out.cell 0
                      have k1 : wr.cell? ⟨w1.heap.size, 1, none⟩ = some (.int .i64 x) := HBx.out.cell 1
                      have k2 : wr.cell? ⟨w1.heap.size, 2, none⟩ = some (.int .i64 y) := HBx.out.cell 2
                      have k3 : wr.cell? ⟨w1.heap.size, 3, none⟩ = some (.int .i64 z) := HBx.out.cell 3
                      have kf := HBx.out.frozen
                      go_wp2_with (first | (go_at_call 41; refine (HNum.out _).mono ?_; rintro e w3 ⟨rfl, rfl⟩) | fail)
                      go_roundg (F.size - (p + 1))
                      case measure => have := Hp.out; omega
                      case rel => exact ⟨p + 1, x, (n : Int), z, lb, by have := Hp.out; omega, by go_num, rfl, HF.out, HBx.out.set_ 2 _, Hf.out.setCell (p := ⟨w1.heap.size, 2, none⟩) (Or.inr (Nat.le_refl _)) _⟩
                  · rw [fg_no (.inr rfl) (fun r' e => hb (by injection e))] at hF
                    subst hF
                    have hbn : ¬ (b.toNat : Int) = 114 := by
                      intro e
                      apply hb
                      apply UInt8.toNat_inj.1
                      show b.toNat = 114
                      omega
                    have hbn2 : ((b.toNat : Int) != 114) = true := bne_iff_ne.2 hbn
                    clear hVs hvl hVt hVd hb
                    have j0 := (HZr.out.cell 0).trans rfl
                    have j1 := (HZr.out.cell 1).trans rfl
                    have j2 := (HZr.out.cell 2).trans rfl
                    have j3 := (HZr.out.cell 3).trans rfl
                    have jf := HZr.out.frozen
                    go_wp2_with fail
                    exact bodyPost_ret (v := .tuple #[.agg #[.int .i64 0, .int .i64 0, .int .i64 0, .int .i64 0], .string ⟨#[]⟩, .bool false]) (resP rfl rfl rfl (Blk.set4 HZr.out _ _ _ _) rfl) rfl ⟨by rw [HRV.out]; rfl, Fr.set4 HFr.out (Or.inr (Nat.le_refl _)) _ _ _ _⟩
              · skip
                have hcc : ∀ h, (F[p]'h).toNat = 115 := hcc
                obtain ⟨Q, hQ⟩ : ∃ Q : Bool, Q = decide (lab = true ∧ (115 : UInt8) = 115 ∧ k ≠ 19 ∧ v.head? = some 64 ∧ isLab v.tail = true) := ⟨_, rfl⟩
                have HQ := Lib.hid hQ
                obtain ⟨M, hM⟩ : ∃ M : Bool, M = decide (((115 : UInt8) = 115) ∧ v.head? = some 45 ∧ v ≠ [45, 48]) := ⟨_, rfl⟩
                have HM := Lib.hid hM
                clear hQ hM
                have k0 : wr.cell? ⟨w1.heap.size, 0, none⟩ = some (.int .i64 (k : Int)) := HBx.out.cell 0
                have k1 : wr.cell? ⟨w1.heap.size, 1, none⟩ = some (.int .i64 x) := HBx.out.cell 1
                have k2 : wr.cell? ⟨w1.heap.size, 2, none⟩ = some (.int .i64 y) := HBx.out.cell 2
                have k3 : wr.cell? ⟨w1.heap.size, 3, none⟩ = some (.int .i64 z) := HBx.out.cell 3
                have kf := HBx.out.frozen
                go_upto_region 17 with (fail)
                go_cut [91] (fun v91 wx => v91 = .bool Q ∧ wx = wr)
                case first =>
                  clear hF
                  cases lab with
                  | false =>
                    have HQf : Hid (Q = false) := Lib.hid (by rw [HQ.out]; simp)
                    go_wp2_with fail
                    go_meet
                    exact ⟨by rw [HQf.out], rfl⟩
                  | true =>
                    by_cases hk19 : k = 19
                    · have HQf : Hid (Q = false) := Lib.hid (by rw [HQ.out]; simp [hk19])
                      have hk2 : ((k : Int) != 19) = false := by rw [bne_eq_false_iff_eq]; omega
                      clear hk19
                      go_wp2_with fail
                      go_meet
                      exact ⟨by rw [HQf.out], rfl⟩
                    · have hk2 : ((k : Int) != 19) = true := by rw [bne_iff_ne]; omega
                      have hk3 : ¬ (k : Int) = 19 := by omega
                      have HK19 := Lib.hid hk19
                      clear hk19
                      rcases hvc with rfl | ⟨b, r, rfl⟩
                      · have HQf : Hid (Q = false) := Lib.hid (by rw [HQ.out]; simp)
                        have h1 : V.toList.isEmpty = true := by rw [hVt]; rfl
                        have h2 : (V.toList == []) = true := by rw [hVt]; rfl
                        have h3 : (V.toList != []) = false := by rw [hVt]; rfl
                        clear hVs hvl hVt
                        go_wp2_with fail
                        go_meet
                        exact ⟨by rw [HQf.out], rfl⟩
                      · skip
                        have h1 : V.toList.isEmpty = false := by rw [hVt]; rfl
                        have h2 : (V.toList == []) = false := by rw [hVt]; rfl
                        have h2' : (V.toList != []) = true := by rw [hVt]; rfl
                        have h3 : 0 < V.size := by rw [hVs]; simp
                        have h4 : (0 : Int) < (V.size : Int) := by omega
                        have h5 : (1 : Int) ≤ (V.size : Int) := by omega
                        have hVd : V.data.toList = b :: r := by rw [← ByteArray.toList_eq]; exact hVt
                        have h6 := bget hVd (i := 0) rfl
                        have hx : V.extract 1 V.size = ⟨r.toArray⟩ := bext (by rw [Lib.extract_to_end, hVd]; rfl)
                        have hrl : r.length ≤ 281474976710656 := by rw [List.length_cons] at hvl; omega
                        obtain ⟨RB, hRB⟩ : ∃ RB : ByteArray, RB = ⟨r.toArray⟩ := ⟨_, rfl⟩
                        rw [← hRB] at hx
                        by_cases hb : b = 64
                        · subst hb
                          have h6 : ∀ h, (V[0]'h).toNat = 64 := h6
                          obtain ⟨LQ, hLQ⟩ : ∃ LQ, isLab r = LQ := ⟨_, rfl⟩
                          have HLb : Hid (∀ W, Calls Tryz.prog 42 #[.string RB] W fun e w' => e = .returned (.bool LQ) ∧ W = w') := Lib.hid (fun W => lab_call RB (by rw [hRB]; exact hrl) (by rw [hRB]; exact hLQ) W)
                          have HQf : Hid (Q = LQ) := Lib.hid (by
                            have h9 := HK19.out
                            rw [HQ.out, ← hLQ]
                            simp [h9])
                          clear hVs hvl hVt hVd hRB hLQ
                          go_wp2_with (first | (go_at_call 42; refine (HLb.out _).mono ?_; rintro e w3 ⟨rfl, rfl⟩) | fail)
                          go_meet
                          exact ⟨by rw [HQf.out], rfl⟩
                        · have HQf : Hid (Q = false) := Lib.hid (by rw [HQ.out]; simp [hb])
                          have hbn : ¬ (b.toNat : Int) = 64 := by
                            intro e
                            apply hb
                            apply UInt8.toNat_inj.1
                            show b.toNat = 64
                            omega
                          have hbn2 : ((b.toNat : Int) == 64) = false := beq_eq_false_iff_ne.2 hbn
                          clear hVs hvl hVt hVd hb
                          go_wp2_with fail
                          go_meet
                          exact ⟨by rw [HQf.out], rfl⟩
                case rest =>
                  obtain ⟨rfl, rfl⟩ := hcut
                  cases Q with
                  | true =>
                    obtain ⟨hlab, -, hk19, hhd, hil⟩ := of_decide_eq_true HQ.out.symm
                    rcases hvc with rfl | ⟨b, r, rfl⟩
                    · cases hhd
                    · have hb : b = 64 := by injection hhd
                      subst hb
                      rw [fg_lab (r := r) hlab hk19 hil] at hF
                      have HF := Lib.hid hF
                      have h1 : V.toList.isEmpty = false := by rw [hVt]; rfl
                      have h2 : (V.toList == []) = false := by rw [hVt]; rfl
                      have h2' : (V.toList != []) = true := by rw [hVt]; rfl
                      have h3 : 0 < V.size := by rw [hVs]; simp
                      have h4 : (0 : Int) < (V.size : Int) := by omega
                      have h5 : (1 : Int) ≤ (V.size : Int) := by omega
                      have hVd : V.data.toList = 64 :: r := by rw [← ByteArray.toList_eq]; exact hVt
                      have h6 := bget hVd (i := 0) rfl
                      have hx : V.extract 1 V.size = ⟨r.toArray⟩ := bext (by rw [Lib.extract_to_end, hVd]; rfl)
                      have hrl : r.length ≤ 281474976710656 := by rw [List.length_cons] at hvl; omega
                      clear hVs hvl hVt hVd hil hhd hk19 hF
                      subst hlab
                      go_wp2_with fail
                      go_roundg (F.size - (p + 1))
                      case measure => have := Hp.out; omega
                      case rel => exact ⟨p + 1, x, y, z, r, by have := Hp.out; omega, by go_num, rfl, HF.out, HBx.out, Hf.out⟩
                  | false =>
                    have hnq : ¬ (lab = true ∧ (115 : UInt8) = 115 ∧ k ≠ 19 ∧ v.head? = some 64 ∧ isLab v.tail = true) := of_decide_eq_false HQ.out.symm
                    rw [fg_num (.inr rfl) hnq] at hF
                    clear hnq
                    go_upto_region 20 with (fail)
                    go_cut [110] (fun v110 wx => v110 = .bool M ∧ wx = wc)
                    case first =>
                      clear hF
                      rcases hvc with rfl | ⟨b, r, rfl⟩
                      · have HMf : Hid (M = false) := Lib.hid (by rw [HM.out]; simp)
                        have h1 : V.toList.isEmpty = true := by rw [hVt]; rfl
                        have h2 : (V.toList == []) = true := by rw [hVt]; rfl
                        have h3 : (V.toList != []) = false := by rw [hVt]; rfl
                        clear hVs hvl hVt
                        go_wp2_with fail
                        go_meet
                        exact ⟨by rw [HMf.out], rfl⟩
                      · skip
                        have h1 : V.toList.isEmpty = false := by rw [hVt]; rfl
                        have h2 : (V.toList == []) = false := by rw [hVt]; rfl
                        have h2' : (V.toList != []) = true := by rw [hVt]; rfl
                        have h3 : 0 < V.size := by rw [hVs]; simp
                        have h4 : (0 : Int) < (V.size : Int) := by omega
                        have h5 : (1 : Int) ≤ (V.size : Int) := by omega
                        have hVd : V.data.toList = b :: r := by rw [← ByteArray.toList_eq]; exact hVt
                        have h6 := bget hVd (i := 0) rfl
                        have hx : V.extract 1 V.size = ⟨r.toArray⟩ := bext (by rw [Lib.extract_to_end, hVd]; rfl)
                        have hrl : r.length ≤ 281474976710656 := by rw [List.length_cons] at hvl; omega
                        by_cases hb : b = 45
                        · subst hb
                          have h6 : ∀ h, (V[0]'h).toNat = 45 := h6
                          obtain ⟨M0, hM0⟩ : ∃ M0 : Bool, M0 = decide ((45 :: r : List UInt8) = [45, 48]) := ⟨_, rfl⟩
                          have hvm : (V.toList == [45, 48]) = M0 := by
                            rw [hVt, hM0, Bool.eq_iff_iff, beq_iff_eq, decide_eq_true_iff]
                          have HMf : Hid (M = !M0) := Lib.hid (by rw [HM.out, hM0]; simp)
                          clear hVs hvl hVt hVd hM0
                          go_wp2_with fail
                          go_meet
                          exact ⟨by rw [HMf.out], rfl⟩
                        · have HMf : Hid (M = false) := Lib.hid (by rw [HM.out]; simp [hb])
                          have hbn : ¬ (b.toNat : Int) = 45 := by
                            intro e
                            apply hb
                            apply UInt8.toNat_inj.1
                            show b.toNat = 45
                            omega
                          have hbn2 : ((b.toNat : Int) == 45) = false := beq_eq_false_iff_ne.2 hbn
                          clear hVs hvl hVt hVd hb
                          go_wp2_with fail
                          go_meet
                          exact ⟨by rw [HMf.out], rfl⟩
                    case rest =>
                      obtain ⟨rfl, rfl⟩ := hcut
                      cases M with
                      | true =>
                        obtain ⟨-, hhd, hne⟩ := of_decide_eq_true HM.out.symm
                        rcases hvc with rfl | ⟨b, r, rfl⟩
                        · cases hhd
                        · have hb : b = 45 := by injection hhd
                          subst hb
                          have hrm : rmR 115 (45 :: r) = (numR r).map fun (u : Nat) => -(u : Int) := by
                            unfold rmR
                            rw [if_pos ⟨rfl, rfl, hne⟩]
                            rfl
                          rw [hrm] at hF
                          have h1 : V.toList.isEmpty = false := by rw [hVt]; rfl
                          have h2 : (V.toList == []) = false := by rw [hVt]; rfl
                          have h2' : (V.toList != []) = true := by rw [hVt]; rfl
                          have h3 : 0 < V.size := by rw [hVs]; simp
                          have h4 : (0 : Int) < (V.size : Int) := by omega
                          have h5 : (1 : Int) ≤ (V.size : Int) := by omega
                          have hVd : V.data.toList = 45 :: r := by rw [← ByteArray.toList_eq]; exact hVt
                          have h6 := bget hVd (i := 0) rfl
                          have hx : V.extract 1 V.size = ⟨r.toArray⟩ := bext (by rw [Lib.extract_to_end, hVd]; rfl)
                          have hrl : r.length ≤ 281474976710656 := by rw [List.length_cons] at hvl; omega
                          obtain ⟨RB, hRB⟩ : ∃ RB : ByteArray, RB = ⟨r.toArray⟩ := ⟨_, rfl⟩
                          rw [← hRB] at hx
                          cases hn : numR r with
                          | none =>
                            have hF : none = FT := by rw [hn] at hF; exact hF
                            subst hF
                            have HNum : Hid (∀ W, Calls Tryz.prog 41 #[.string RB] W fun e w' => e = .returned (.tuple #[.int .i64 0, .bool false]) ∧ W = w') := Lib.hid (fun W => by
                              have h := num_call RB (by rw [hRB]; exact hrl) (o := none) (by rw [hRB]; exact hn) W
                              exact h)
                            clear hVs hvl hVt hVd hn hRB hhd hne hrm
                            have j0 := (HZr.out.cell 0).trans rfl
                            have j1 := (HZr.out.cell 1).trans rfl
                            have j2 := (HZr.out.cell 2).trans rfl
                            have j3 := (HZr.out.cell 3).trans rfl
                            have jf := HZr.out.frozen
                            go_wp2_with (first | (go_at_call 41; refine (HNum.out _).mono ?_; rintro e w3 ⟨rfl, rfl⟩) | fail)
                            exact bodyPost_ret (v := .tuple #[.agg #[.int .i64 0, .int .i64 0, .int .i64 0, .int .i64 0], .string ⟨#[]⟩, .bool false]) (resP rfl rfl rfl (Blk.set4 HZr.out _ _ _ _) rfl) rfl ⟨by rw [HRV.out]; rfl, Fr.set4 HFr.out (Or.inr (Nat.le_refl _)) _ _ _ _⟩
                          | some n =>
                            have hF : fieldsG rdR rmR lab k ((fmL k).drop (p + 1)) (vs.drop (p + 1)) ⟨k, x, y, -(n : Int)⟩ lb = FT := by rw [hn] at hF; exact hF
                            have HF := Lib.hid hF
                            have hnl := numR_lt hn
                            have hm1 : IntKind.i64.wrap (-(n : Int)) = -(n : Int) := IntWalk.i64_in _ (by omega)
                            have hm2 : -1 * (n : Int) = -(n : Int) := by omega
                            have HNum : Hid (∀ W, Calls Tryz.prog 41 #[.string RB] W fun e w' => e = .returned (.tuple #[.int .i64 (n : Int), .bool true]) ∧ W = w') := Lib.hid (fun W => by
                              have h := num_call RB (by rw [hRB]; exact hrl) (o := some n) (by rw [hRB]; exact hn) W
                              exact h)
                            clear hVs hvl hVt hVd hn hRB hF hhd hne hrm
                            go_wp2_with (first | (go_at_call 41; refine (HNum.out _).mono ?_; rintro e w3 ⟨rfl, rfl⟩) | fail)
                            go_roundg (F.size - (p + 1))
                            case measure => have := Hp.out; omega
                            case rel => exact ⟨p + 1, x, y, -(n : Int), lb, by have := Hp.out; omega, by go_num, rfl, HF.out, HBx.out.set_ 3 _, Hf.out.setCell (p := ⟨w1.heap.size, 3, none⟩) (Or.inr (Nat.le_refl _)) _⟩
                      | false =>
                        have hrm : rmR 115 v = rdR v := by
                          unfold rmR
                          rw [if_neg (of_decide_eq_false HM.out.symm)]
                        rw [hrm] at hF
                        have hVd : V.data.toList = v := by rw [← ByteArray.toList_eq]; exact hVt
                        have hVb : V.size ≤ 281474976710656 := by omega
                        cases hn : numR v with
                        | none =>
                          have hF : none = FT := by unfold rdR at hF; rw [hn] at hF; exact hF
                          subst hF
                          have HNum : Hid (∀ W, Calls Tryz.prog 41 #[.string V] W fun e w' => e = .returned (.tuple #[.int .i64 0, .bool false]) ∧ W = w') := Lib.hid (fun W => by
                            have h := num_call V (by exact hVb) (o := none) (by rw [hVd]; exact hn) W
                            exact h)
                          clear hVs hvl hVt hVd hn hVb hrm hvc
                          have j0 := (HZr.out.cell 0).trans rfl
                          have j1 := (HZr.out.cell 1).trans rfl
                          have j2 := (HZr.out.cell 2).trans rfl
                          have j3 := (HZr.out.cell 3).trans rfl
                          have jf := HZr.out.frozen
                          go_wp2_with (first | (go_at_call 41; refine (HNum.out _).mono ?_; rintro e w3 ⟨rfl, rfl⟩) | fail)
                          exact bodyPost_ret (v := .tuple #[.agg #[.int .i64 0, .int .i64 0, .int .i64 0, .int .i64 0], .string ⟨#[]⟩, .bool false]) (resP rfl rfl rfl (Blk.set4 HZr.out _ _ _ _) rfl) rfl ⟨by rw [HRV.out]; rfl, Fr.set4 HFr.out (Or.inr (Nat.le_refl _)) _ _ _ _⟩
                        | some n =>
                          have hF : fieldsG rdR rmR lab k ((fmL k).drop (p + 1)) (vs.drop (p + 1)) ⟨k, x, y, (n : Int)⟩ lb = FT := by unfold rdR at hF; rw [hn] at hF; exact hF
                          have HF := Lib.hid hF
                          have hnl := numR_lt hn
                          have hm1 : IntKind.i64.wrap (n : Int) = (n : Int) := IntWalk.i64_in _ (by omega)
                          have HNum : Hid (∀ W, Calls Tryz.prog 41 #[.string V] W fun e w' => e = .returned (.tuple #[.int .i64 (n : Int), .bool true]) ∧ W = w') := Lib.hid (fun W => by
                            have h := num_call V (by exact hVb) (o := some n) (by rw [hVd]; exact hn) W
                            exact h)
                          clear hVs hvl hVt hVd hn hF hVb hrm hvc
                          go_wp2_with (first | (go_at_call 41; refine (HNum.out _).mono ?_; rintro e w3 ⟨rfl, rfl⟩) | fail)
                          go_roundg (F.size - (p + 1))
                          case measure => have := Hp.out; omega
                          case rel => exact ⟨p + 1, x, y, (n : Int), lb, by have := Hp.out; omega, by go_num, rfl, HF.out, HBx.out.set_ 3 _, Hf.out.setCell (p := ⟨w1.heap.size, 3, none⟩) (Or.inr (Nat.le_refl _)) _⟩
              · skip
                have hcc : ∀ h, (F[p]'h).toNat = 117 := hcc
                obtain ⟨Q, hQ⟩ : ∃ Q : Bool, Q = decide (lab = true ∧ (117 : UInt8) = 115 ∧ k ≠ 19 ∧ v.head? = some 64 ∧ isLab v.tail = true) := ⟨_, rfl⟩
                have HQ := Lib.hid hQ
                obtain ⟨M, hM⟩ : ∃ M : Bool, M = decide (((117 : UInt8) = 115) ∧ v.head? = some 45 ∧ v ≠ [45, 48]) := ⟨_, rfl⟩
                have HM := Lib.hid hM
                clear hQ hM
                have k0 : wr.cell? ⟨w1.heap.size, 0, none⟩ = some (.int .i64 (k : Int)) := HBx.out.cell 0
                have k1 : wr.cell? ⟨w1.heap.size, 1, none⟩ = some (.int .i64 x) := HBx.out.cell 1
                have k2 : wr.cell? ⟨w1.heap.size, 2, none⟩ = some (.int .i64 y) := HBx.out.cell 2
                have k3 : wr.cell? ⟨w1.heap.size, 3, none⟩ = some (.int .i64 z) := HBx.out.cell 3
                have kf := HBx.out.frozen
                go_upto_region 17 with (fail)
                go_cut [91] (fun v91 wx => v91 = .bool Q ∧ wx = wr)
                case first =>
                  clear hF
                  cases lab with
                  | false =>
                    have HQf : Hid (Q = false) := Lib.hid (by rw [HQ.out]; simp)
                    go_wp2_with fail
                    go_meet
                    exact ⟨by rw [HQf.out], rfl⟩
                  | true =>
                    have HQf : Hid (Q = false) := Lib.hid (by rw [HQ.out]; simp)
                    go_wp2_with fail
                    go_meet
                    exact ⟨by rw [HQf.out], rfl⟩
                case rest =>
                  obtain ⟨rfl, rfl⟩ := hcut
                  cases Q with
                  | true =>
                    exfalso
                    have h := of_decide_eq_true HQ.out.symm
                    exact absurd h.2.1 (by decide)
                  | false =>
                    have hnq : ¬ (lab = true ∧ (117 : UInt8) = 115 ∧ k ≠ 19 ∧ v.head? = some 64 ∧ isLab v.tail = true) := of_decide_eq_false HQ.out.symm
                    rw [fg_num (.inl rfl) hnq] at hF
                    clear hnq
                    go_upto_region 20 with (fail)
                    go_cut [110] (fun v110 wx => v110 = .bool M ∧ wx = wc)
                    case first =>
                      clear hF
                      have HMf : Hid (M = false) := Lib.hid (by rw [HM.out]; simp)
                      go_wp2_with fail
                      go_meet
                      exact ⟨by rw [HMf.out], rfl⟩
                    case rest =>
                      obtain ⟨rfl, rfl⟩ := hcut
                      cases M with
                      | true =>
                        exfalso
                        have h := of_decide_eq_true HM.out.symm
                        exact absurd h.1 (by decide)
                      | false =>
                        have hrm : rmR 117 v = rdR v := by
                          unfold rmR
                          rw [if_neg (of_decide_eq_false HM.out.symm)]
                        rw [hrm] at hF
                        have hVd : V.data.toList = v := by rw [← ByteArray.toList_eq]; exact hVt
                        have hVb : V.size ≤ 281474976710656 := by omega
                        cases hn : numR v with
                        | none =>
                          have hF : none = FT := by unfold rdR at hF; rw [hn] at hF; exact hF
                          subst hF
                          have HNum : Hid (∀ W, Calls Tryz.prog 41 #[.string V] W fun e w' => e = .returned (.tuple #[.int .i64 0, .bool false]) ∧ W = w') := Lib.hid (fun W => by
                            have h := num_call V (by exact hVb) (o := none) (by rw [hVd]; exact hn) W
                            exact h)
                          clear hVs hvl hVt hVd hn hVb hrm hvc
                          have j0 := (HZr.out.cell 0).trans rfl
                          have j1 := (HZr.out.cell 1).trans rfl
                          have j2 := (HZr.out.cell 2).trans rfl
                          have j3 := (HZr.out.cell 3).trans rfl
                          have jf := HZr.out.frozen
                          go_wp2_with (first | (go_at_call 41; refine (HNum.out _).mono ?_; rintro e w3 ⟨rfl, rfl⟩) | fail)
                          exact bodyPost_ret (v := .tuple #[.agg #[.int .i64 0, .int .i64 0, .int .i64 0, .int .i64 0], .string ⟨#[]⟩, .bool false]) (resP rfl rfl rfl (Blk.set4 HZr.out _ _ _ _) rfl) rfl ⟨by rw [HRV.out]; rfl, Fr.set4 HFr.out (Or.inr (Nat.le_refl _)) _ _ _ _⟩
                        | some n =>
                          have hF : fieldsG rdR rmR lab k ((fmL k).drop (p + 1)) (vs.drop (p + 1)) ⟨k, x, y, (n : Int)⟩ lb = FT := by unfold rdR at hF; rw [hn] at hF; exact hF
                          have HF := Lib.hid hF
                          have hnl := numR_lt hn
                          have hm1 : IntKind.i64.wrap (n : Int) = (n : Int) := IntWalk.i64_in _ (by omega)
                          have HNum : Hid (∀ W, Calls Tryz.prog 41 #[.string V] W fun e w' => e = .returned (.tuple #[.int .i64 (n : Int), .bool true]) ∧ W = w') := Lib.hid (fun W => by
                            have h := num_call V (by exact hVb) (o := some n) (by rw [hVd]; exact hn) W
                            exact h)
                          clear hVs hvl hVt hVd hn hF hVb hrm hvc
                          go_wp2_with (first | (go_at_call 41; refine (HNum.out _).mono ?_; rintro e w3 ⟨rfl, rfl⟩) | fail)
                          go_roundg (F.size - (p + 1))
                          case measure => have := Hp.out; omega
                          case rel => exact ⟨p + 1, x, y, (n : Int), lb, by have := Hp.out; omega, by go_num, rfl, HF.out, HBx.out.set_ 3 _, Hf.out.setCell (p := ⟨w1.heap.size, 3, none⟩) (Or.inr (Nat.le_refl _)) _⟩
            · have hlt1 : ¬ (p : Int) < (F.size : Int) := by omega
              have hdr : (fmL k).drop p = [] := List.drop_eq_nil_of_le (by have := HFl.out; omega)
              rw [hdr] at hF
              have hF : some ((⟨k, x, y, z⟩ : In), lb) = FT := hF
              have hRV2 : RV = if okL ⟨k, x, y, z⟩ k = true then (⟨k, x, y, z⟩, lb, true) else (I00, [], false) := by rw [HRV.out, ← hF]; rfl
              have HC := Lib.hid (fun W => HCk.out ⟨k, x, y, z⟩ rfl W)
              rw [okI_eq _ HK.out] at HC
              have k0 : wr.cell? ⟨w1.heap.size, 0, none⟩ = some (.int .i64 (k : Int)) := HBx.out.cell 0
              have k1 : wr.cell? ⟨w1.heap.size, 1, none⟩ = some (.int .i64 x) := HBx.out.cell 1
              have k2 : wr.cell? ⟨w1.heap.size, 2, none⟩ = some (.int .i64 y) := HBx.out.cell 2
              have k3 : wr.cell? ⟨w1.heap.size, 3, none⟩ = some (.int .i64 z) := HBx.out.cell 3
              have kf := HBx.out.frozen
              cases ho : okL ⟨k, x, y, z⟩ k with
              | true =>
                have HR2 : Hid (RV = (⟨k, x, y, z⟩, lb, true)) := Lib.hid (hRV2.trans (if_pos ho))
                have HC : Hid (∀ W, Calls Tryz.prog 16 #[.agg #[.int .i64 (k : Int), .int .i64 x, .int .i64 y, .int .i64 z]] W fun e w' => e = .returned (.int .i64 0) ∧ Fr [] W w') := Lib.hid (fun W => by
                  have h := HC.out W
                  rw [ho] at h
                  exact h)
                clear hRV2 ho hF hdr hp hb hf hlt
                go_wp2_with (first | (go_at_call 16; refine (HC.out _).mono ?_; rintro e w4 ⟨rfl, hf4⟩; have HB4 := Lib.hid (HBx.out.fr hf4 (by simp)); have HZ4 := Lib.hid (HZr.out.fr hf4 (by simp)); have HF4 := Lib.hid (HFr.out.trans hf4); clear hf4 k0 k1 k2 k3 kf; have k0 := (HB4.out.cell 0).trans rfl; have k1 := (HB4.out.cell 1).trans rfl; have k2 := (HB4.out.cell 2).trans rfl; have k3 := (HB4.out.cell 3).trans rfl; have kf := HB4.out.frozen; have j0 := (HZ4.out.cell 0).trans rfl; have j1 := (HZ4.out.cell 1).trans rfl; have j2 := (HZ4.out.cell 2).trans rfl; have j3 := (HZ4.out.cell 3).trans rfl; have jf := HZ4.out.frozen) | fail)
                exact bodyPost_ret (v := .tuple #[.agg #[.int .i64 (k : Int), .int .i64 x, .int .i64 y, .int .i64 z], .string ⟨lb.toArray⟩, .bool true]) (resP rfl rfl rfl (Blk.set4 HZ4.out _ _ _ _) rfl) rfl ⟨by rw [HR2.out], Fr.set4 HF4.out (Or.inr (Nat.le_refl _)) _ _ _ _⟩
              | false =>
                have HR2 : Hid (RV = (I00, [], false)) := Lib.hid (hRV2.trans (if_neg (by rw [ho]; simp)))
                have HC : Hid (∀ W, Calls Tryz.prog 16 #[.agg #[.int .i64 (k : Int), .int .i64 x, .int .i64 y, .int .i64 z]] W fun e w' => e = .returned (.int .i64 90) ∧ Fr [] W w') := Lib.hid (fun W => by
                  have h := HC.out W
                  rw [ho] at h
                  exact h)
                clear hRV2 ho hF hdr hp hb hf hlt
                go_wp2_with (first | (go_at_call 16; refine (HC.out _).mono ?_; rintro e w4 ⟨rfl, hf4⟩; have HB4 := Lib.hid (HBx.out.fr hf4 (by simp)); have HZ4 := Lib.hid (HZr.out.fr hf4 (by simp)); have HF4 := Lib.hid (HFr.out.trans hf4); clear hf4 k0 k1 k2 k3 kf; have k0 := (HB4.out.cell 0).trans rfl; have k1 := (HB4.out.cell 1).trans rfl; have k2 := (HB4.out.cell 2).trans rfl; have k3 := (HB4.out.cell 3).trans rfl; have kf := HB4.out.frozen; have j0 := (HZ4.out.cell 0).trans rfl; have j1 := (HZ4.out.cell 1).trans rfl; have j2 := (HZ4.out.cell 2).trans rfl; have j3 := (HZ4.out.cell 3).trans rfl; have jf := HZ4.out.frozen) | fail)
                exact bodyPost_ret (v := .tuple #[.agg #[.int .i64 0, .int .i64 0, .int .i64 0, .int .i64 0], .string ⟨#[]⟩, .bool false]) (resP rfl rfl rfl (Blk.set4 HZ4.out _ _ _ _) rfl) rfl ⟨by rw [HR2.out]; rfl, Fr.set4 HF4.out (Or.inr (Nat.le_refl _)) _ _ _ _⟩
        · have HRV : Hid (RV = (I00, [], false)) := Lib.hid (HV.out.trans (if_neg hl))
          have hq : (((vs.length : Nat) : Int) != ((fm k).size : Int)) = true := by rw [bne_iff_ne, hFl]; omega
          generalize fm k = F at *
          clear hop hl hFl hk
          have j0 := (HZ2.out.cell 0).trans rfl
          have j1 := (HZ2.out.cell 1).trans rfl
          have j2 := (HZ2.out.cell 2).trans rfl
          have j3 := (HZ2.out.cell 3).trans rfl
          have jf := HZ2.out.frozen
          go_wp2_with (first | (go_at_call 28; refine (HFm.out _).mono ?_; rintro e w3 ⟨rfl, rfl⟩) | fail)
          exact bodyPost_ret (v := .tuple #[.agg #[.int .i64 0, .int .i64 0, .int .i64 0, .int .i64 0], .string ⟨#[]⟩, .bool false]) (resP rfl rfl rfl (Blk.set4 HZ2.out _ _ _ _) rfl) rfl ⟨by rw [HRV.out]; rfl, Fr.set4 HFz2.out (Or.inr (Nat.le_refl _)) _ _ _ _⟩
end Go.Proofs.YtjijhjdemkgpgaaGreatDoor

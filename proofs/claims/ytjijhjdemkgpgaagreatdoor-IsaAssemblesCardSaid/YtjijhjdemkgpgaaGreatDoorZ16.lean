/- The document's Assemble. (Printed by genz16.py.) -/
import Derived.Test.YtjijhjdemkgpgaaGreatDoorZ18
import Derived.Deep.DeepCutAuto
import Derived.Deep.AppendLies
namespace Go.Proofs.YtjijhjdemkgpgaaGreatDoor
open Go.RowKit
set_option linter.unusedVariables false
set_option linter.unusedSimpArgs false
set_option maxRecDepth 100000
set_option maxHeartbeats 16000000 in
theorem rAssemble_any (s : ByteArray) (w : World) : Calls Tryz.prog 18 #[.string s] w fun e w' => e = .returned (.tuple #[.string ⟨(asm s.data.toList).1.toArray⟩, .int .i64 ((asm s.data.toList).2.1 : Nat), .int .i64 (asm s.data.toList).2.2]) ∧ Fr [] w w' := by
  have hsz : s.data.toList.length = s.size := rfl
  by_cases hbig : 32768 < s.size
  · have hR : asm s.data.toList = ([], 0, 94) := by unfold asm; rw [if_pos (by omega)]
    rw [hR]
    have hb2 : (32768 : Int) < (s.size : Int) := by omega
    clear hR hbig
    go_enter Tryz.func18, Tryz.ntmps18
    go_wp2
    go_ret3
    exact ⟨rfl, Fr.refl _ _⟩
  · have hb2 : ¬ (32768 : Int) < (s.size : Int) := by omega
    have HS : Hid (s.size ≤ 32768) := Lib.hid (by omega)
    obtain ⟨j0, hj0, hy0, hy1, hy2⟩ : ∃ i, Tryz.prog.info? 9 = some i ∧ i.zero = some (.string ⟨#[]⟩) ∧ i.size = 1 ∧ i.bytes = 16 := ⟨_, rfl, rfl, rfl, rfl⟩
    have HSz := Lib.hid hsz
    have HO0 : Hid ((w.alloc (.cells #[] 9)).ownsRow w.heap.size 9 1 (.slice (some ⟨w.heap.size, 0, none⟩) 0 0) 0 []) := Lib.hid (World.ownsRow_made w #[] 0 (Nat.le_refl _) (Nat.zero_le _) (by simp))
    have HF0 : Hid (Fr [] w (w.alloc (.cells #[] 9))) := Lib.hid ((Fr.refl [] w).alloc _)
    have HW0 : Hid (LInv s.data.toList 0 0 []) := Lib.hid ⟨Nat.zero_le _, Nat.le_refl _, rfl, by simp⟩
    have HB : Hid (∀ (i : Nat) (d : UInt8), s.data.toList[i]? = some d → ∀ h, (s[i]'h).toNat = d.toNat) := Lib.hid (fun i d h => bget (S := s) rfl h)
    have HX : Hid (∀ f i : Nat, s.extract f i = ⟨((s.data.toList.drop f).take (i - f)).toArray⟩) := Lib.hid (fun f i => bext (by rw [Lib.extract_data]))
    have HA : Hid (∀ ws, (splitC 10 s.data.toList = ws ∨ splitC 10 s.data.toList = ws ++ [[]]) → asm s.data.toList = told (asmK (ws.map lineK))) := Lib.hid (fun ws h => asm_lines (by omega) h)
    obtain ⟨R, hR⟩ : ∃ R, R = asm s.data.toList := ⟨_, rfl⟩
    rw [← hR] at HA ⊢
    obtain ⟨L, hL⟩ : ∃ L, L = s.data.toList := ⟨_, rfl⟩
    rw [← hL] at HSz HW0 HB HX HA
    clear hsz hL hR hbig
    go_enter Tryz.func18, Tryz.ntmps18
    go_wp2_with fail
    go_loopg [5, 6, 7] (s.size + 1) (fun gg v5 v6 v7 wr => ∃ (i f : Nat) (ws : List (List UInt8)), i + gg = s.size + 1 ∧ v7 = .int .i64 (i : Int) ∧ v6 = .int .i64 (f : Int) ∧ wr.ownsRow w.heap.size 9 1 v5 ws.length (sW ws) ∧ v5 ≠ .slice none 0 0 ∧ ((i ≤ s.size ∧ LInv L i f ws ∧ ws.length ≤ f) ∨ (i = s.size + 1 ∧ ws.length ≤ 32769 ∧ (splitC 10 L = ws ∨ splitC 10 L = ws ++ [[]]))) ∧ Fr [] w wr)
    case atStart => exact ⟨0, 0, [], by omega, rfl, rfl, HO0.out, by simp, .inl ⟨Nat.zero_le _, HW0.out, Nat.le_refl _⟩, HF0.out⟩
    case round =>
      obtain ⟨i, f, ws, hi, rfl, rfl, hown, hne, hst, hf⟩ := hrel
      have Hi := Lib.hid hi
      have HOw := Lib.hid hown
      have HNe := Lib.hid hne
      have Hf := Lib.hid hf
      rcases hst with ⟨hle, hwi, hwl⟩ | ⟨hie, hwl, hws⟩
      · have HWi := Lib.hid hwi
        have HWl := Lib.hid hwl
        have hle1 : (i : Int) ≤ (s.size : Int) := by omega
        have hi0 : (0 : Int) ≤ (i : Int) := by omega
        have hf0 : (0 : Int) ≤ (f : Int) := by omega
        have hfi : f ≤ i := hwi.2.1
        have hfi1 : (f : Int) ≤ (i : Int) := by omega
        have hwk : IntKind.i64.wrap ((i : Int) + 1) = (i : Int) + 1 := IntWalk.i64_in _ (by have := HS.out; omega)
        have hext := HX.out f i
        obtain ⟨RW, hRW⟩ : ∃ RW : ByteArray, RW = ⟨((L.drop f).take (i - f)).toArray⟩ := ⟨_, rfl⟩
        rw [← hRW] at hext
        have HRW := Lib.hid hRW
        have hm1 : ws.length + 1 ≤ maxLen := by have := HS.out; simp only [maxLen]; omega
        have hm2 : (ws.length + 1) * 16 ≤ 140737488355328 := by have := HS.out; omega
        have HO3 := Lib.hid (own_fr hown ((Fr.refl [] wr).alloc (.cells #[.string RW] 9)) (by simp))
        have HNw := Lib.hid (World.news_of_block (Blk.new wr 9 #[.string RW]))
        have HB9 : Hid (w.heap.size ≤ (wr.alloc (.cells #[.string RW] 9)).heap.size) := Lib.hid (by have := hf.size; simp; omega)
        by_cases hlt : i < s.size
        · obtain ⟨d, hd⟩ : ∃ d, L[i]? = some d := ⟨_, List.getElem?_eq_getElem (by have := HSz.out; omega)⟩
          have hdc := HB.out i d hd
          have hlt1 : (i : Int) < (s.size : Int) := by omega
          have hne1 : ((i : Int) == (s.size : Int)) = false := beq_eq_false_iff_ne.2 (by omega)
          by_cases h32 : d = 10
          · subst h32
            have HWn := Lib.hid (linv_cut hwi hd)
            clear hi hown hne hwi hwl hf hd hRW hle
            go_wp2_with (first
              | (at_builtin; go_must (refine wpList_append_own _ rfl _ _ 51 rfl w.heap.size 9 j0 (.string ⟨#[]⟩) 1 16 Tryz.underlying51 hj0 hy0 hy1 hy2 rfl (Nat.succ_pos 0) _ ws.length (sW ws) rfl HO3.out ⟨wr.heap.size, 0, none⟩ 1 1 [.string RW] rfl rfl HNw.out (by simp [Value.oneCell']) hm1 hm2 HB9.out ?_; intro v3 w3 ho3 hg3 hn3; have HO4 := Lib.hid ho3; have HN4 := Lib.hid hn3; have HF4 := Lib.hid ((Hf.out.alloc _).own HO3.out hg3); clear ho3 hg3 hn3))
              | fail)
            go_roundg (s.size + 1 - (i + 1))
            case measure => have := Hi.out; omega
            case rel => exact ⟨i + 1, i + 1, ws ++ [(L.drop f).take (i - f)], by omega, by go_num, by go_num, by rw [sW_snoc, ← HRW.out, List.length_append]; exact HO4.out, fun e => by have := HN4.out.1 e; exact absurd this.2 (by decide), .inl ⟨by omega, HWn.out, by rw [List.length_append]; have := HWl.out; simp only [List.length_cons, List.length_nil]; omega⟩, HF4.out⟩
          · have HWn := Lib.hid (linv_go hwi hd h32)
            have hq : ((d.toNat : Int) == 10) = false := by
              rw [beq_eq_false_iff_ne]
              intro e
              apply h32
              apply UInt8.toNat_inj.1
              show d.toNat = 10
              omega
            clear hi hown hne hwi hwl hf hd hRW hle h32
            go_wp2_with fail
            go_roundg (s.size + 1 - (i + 1))
            case measure => have := Hi.out; omega
            case rel => exact ⟨i + 1, f, ws, by omega, by go_num, rfl, HOw.out, HNe.out, .inl ⟨by omega, HWn.out, HWl.out⟩, Hf.out⟩
        · obtain rfl : i = s.size := by omega
          have hsl := HSz.out
          have HWe : Hid (splitC 10 L = ws ++ [L.drop f]) := Lib.hid (linv_end (by rw [hsl]; exact hwi))
          have hlt2 : ¬ (s.size : Int) < (s.size : Int) := by omega
          have hne1 : ((s.size : Int) == (s.size : Int)) = true := by simp
          by_cases hfs : f < s.size
          · have hfs1 : (f : Int) < (s.size : Int) := by omega
            have HWn : Hid (splitC 10 L = ws ++ [(L.drop f).take (s.size - f)]) := Lib.hid (by
              rw [HWe.out, List.take_of_length_le (by rw [List.length_drop]; omega)])
            clear hi hown hne hwi hwl hf hRW hle hlt hsl
            go_wp2_with (first
              | (at_builtin; go_must (refine wpList_append_own _ rfl _ _ 51 rfl w.heap.size 9 j0 (.string ⟨#[]⟩) 1 16 Tryz.underlying51 hj0 hy0 hy1 hy2 rfl (Nat.succ_pos 0) _ ws.length (sW ws) rfl HO3.out ⟨wr.heap.size, 0, none⟩ 1 1 [.string RW] rfl rfl HNw.out (by simp [Value.oneCell']) hm1 hm2 HB9.out ?_; intro v3 w3 ho3 hg3 hn3; have HO4 := Lib.hid ho3; have HN4 := Lib.hid hn3; have HF4 := Lib.hid ((Hf.out.alloc _).own HO3.out hg3); clear ho3 hg3 hn3))
              | fail)
            go_roundg (s.size + 1 - (s.size + 1))
            case measure => have := Hi.out; omega
            case rel => exact ⟨s.size + 1, s.size + 1, ws ++ [(L.drop f).take (s.size - f)], by omega, by go_num, by go_num, by rw [sW_snoc, ← HRW.out, List.length_append]; exact HO4.out, fun e => by have := HN4.out.1 e; exact absurd this.2 (by decide), .inr ⟨rfl, by rw [List.length_append]; have := HWl.out; have := HS.out; simp only [List.length_cons, List.length_nil]; omega, .inl HWn.out⟩, HF4.out⟩
          · have hfs1 : ¬ (f : Int) < (s.size : Int) := by omega
            have HWn : Hid (splitC 10 L = ws ++ [[]]) := Lib.hid (by
              rw [HWe.out, List.drop_eq_nil_of_le (by omega)])
            clear hi hown hne hwi hwl hf hRW hle hlt hsl hfs
            go_wp2_with fail
            go_roundg (s.size + 1 - (s.size + 1))
            case measure => have := Hi.out; omega
            case rel => exact ⟨s.size + 1, f, ws, by omega, by go_num, rfl, HOw.out, HNe.out, .inr ⟨rfl, by have := HWl.out; have := HS.out; omega, .inr HWn.out⟩, Hf.out⟩
      · have hgt : ¬ (i : Int) ≤ (s.size : Int) := by omega
        have HW := Lib.hid hws
        have HAs : Hid (R = told (asmK (ws.map lineK))) := Lib.hid (HA.out ws hws)
        have HWl := Lib.hid hwl
        have HMl : Hid (∀ x, x ∈ ws → x.length ≤ 32768) := Lib.hid (fun x hx => by
          have hm : x ∈ splitC 10 L := by
            rcases hws with h | h
            · rw [h]; exact hx
            · rw [h]; simp [hx]
          have h1 := splitC_len 10 L x hm
          have h2 := HSz.out
          have h3 := HS.out
          omega)
        obtain ⟨g, cp, rfl, hc⟩ := own_form9 hown hne
        have HC : Hid (∀ (j : Nat) (x : List UInt8), ws[j]? = some x → ∀ W, Fr [] wr W → W.cell? ⟨g, j, none⟩ = some (.string ⟨x.toArray⟩)) := Lib.hid (fun j x hx W hW => by
          have h := hc j (.string ⟨x.toArray⟩) (by unfold sW; rw [List.getElem?_map, hx]; rfl)
          rw [add0] at h
          exact hW.cell_some h (by simp))
        clear hi hown hne hf hie hws hwl hc HOw HNe HW HA HW0 HO0 HF0
        go_wp2_with fail
        obtain ⟨Wa, rfl⟩ : ∃ W, W = wr := ⟨_, rfl⟩
        have HFw := Hf
        obtain ⟨p0, hp0, hq0, hq1, hq2⟩ : ∃ i, Tryz.prog.info? 70 = some i ∧ i.zero = some (.agg #[.string ⟨#[]⟩, .int .i64 0]) ∧ i.size = 2 ∧ i.bytes = 24 := ⟨_, rfl, rfl, rfl, rfl⟩
        have HP0 : Hid ((Wa.alloc (.cells #[] 70)).ownsRow Wa.heap.size 70 2 (.slice (some ⟨Wa.heap.size, 0, none⟩) 0 0) 0 (pcs [])) := Lib.hid (World.ownsRow_made Wa #[] 0 (Nat.le_refl _) (Nat.zero_le _) (by simp))
        have HG0 : Hid (Fr [] Wa (Wa.alloc (.cells #[] 70))) := Lib.hid ((Fr.refl [] Wa).alloc _)
        obtain ⟨P1, hP1⟩ : ∃ P1, P1 = pass1 (ws.map lineK) 0 0 [] := ⟨_, rfl⟩
        have HP1 := Lib.hid hP1
        clear hP1
        obtain ⟨NL, hNL⟩ : ∃ NL, NL = ws.length := ⟨_, rfl⟩
        rw [← hNL]
        have HNL := Lib.hid hNL
        clear hNL
        go_loopg [8, 9, 10] NL (fun gg v8 v9 v10 wr => ∃ (n size : Nat) (pr pl : Pl), n + gg = NL ∧ v10 = .int .i64 (n : Int) ∧ v8 = .int .i64 (size : Int) ∧ wr.ownsRow Wa.heap.size 70 2 v9 pr.length (pcs pr) ∧ v9 ≠ .slice none 0 0 ∧ (∀ x, findP pr x = findP pl x) ∧ pass1 ((ws.drop n).map lineK) n size pl = P1 ∧ Fours size pl ∧ size ≤ 4096 ∧ pr.length ≤ n ∧ Fr [] Wa wr)
        case atStart => exact ⟨0, 0, [], [], by omega, rfl, rfl, HP0.out, by simp, fun _ => rfl, HP1.out.symm, ⟨rfl, fun l a h => by cases h⟩, by omega, Nat.le_refl _, HG0.out⟩
        case round =>
          obtain ⟨n, size, pr, pl, hn, rfl, rfl, ho, hne, hfp, hp, h4, hs4, hpl, hf2⟩ := hrel
          have Hn := Lib.hid hn
          have HPo := Lib.hid ho
          have HPn := Lib.hid hne
          have HFp := Lib.hid hfp
          have H4 := Lib.hid h4
          have Hs4 := Lib.hid hs4
          have Hpl := Lib.hid hpl
          have Hf2 := Lib.hid hf2
          by_cases hlt : n < NL
          · obtain ⟨l, hl⟩ : ∃ l, ws[n]? = some l := ⟨_, List.getElem?_eq_getElem (by have := HNL.out; omega)⟩
            have hl8 := HMl.out l (List.mem_of_getElem? hl)
            have c1 := HC.out n l hl wr hf2
            have hlt1 : (n : Int) < (NL : Int) := by omega
            have hn0 : (0 : Int) ≤ (n : Int) := by omega
            have hN9 : NL ≤ 32769 := by have := HNL.out; have := HWl.out; omega
            have hn6 : n ≤ 1000000 := by omega
            have HN6 := Lib.hid hn6
            clear hn6
            have hwr : IntKind.i64.wrap ((n : Int) + 1) = (n : Int) + 1 := IntWalk.i64_in _ (by omega)
            have hwr2 : IntKind.i64.wrap ((size : Int) + 4) = (size : Int) + 4 := IntWalk.i64_in _ (by omega)
            rw [drop_map lineK hl] at hp
            have Hp := Lib.hid hp
            obtain ⟨T, hT⟩ : ∃ T : ByteArray, T = ⟨l.toArray⟩ := ⟨_, rfl⟩
            rw [← hT] at c1
            have hTl : T.toList = l := by rw [hT]; exact Lib.toList_data _
            have hTd : T.data.toList = l := by rw [hT]
            have hTs : T.size = l.length := by rw [hT]; rfl
            have HPa := Lib.hid (fun W => rparse_any T true (by omega) W)
            rw [hTd] at HPa
            have HIs := Lib.hid (readR_is true l)
            generalize readR true l = RR at *
            obtain ⟨⟨io, ia, ib, im⟩, lb, is⟩ := RR
            simp only at HPa
            have HIs : Hid (is = (readV true l).2.2) := HIs
            have HTl := Lib.hid hTl
            have HTd := Lib.hid hTd
            have HTs := Lib.hid hTs
            have Hl8 := Lib.hid hl8
            clear hn ho hne hfp h4 hs4 hpl hf2 hl hp hT hTd hlt
            by_cases h0 : l = []
            · have hp : pass1 ((ws.drop (n + 1)).map lineK) (n + 1) size pl = P1 := by
                have h := Hp.out
                rw [h0] at h
                exact h
              have HP := Lib.hid hp
              have e1 : T.toList = [] := by rw [HTl.out, h0]
              have e2 : (T.toList == []) = true := by rw [e1]; rfl
              have e3 : T.toList.isEmpty = true := by rw [e1]; rfl
              have e4 : T.size = 0 := by rw [HTs.out, h0]; rfl
              have e5 : ¬ (5 : Int) < (T.size : Int) := by omega
              have e6 : ¬ (4096 : Int) < (size : Int) := by have := Hs4.out; omega
              clear hTl hTs hp h0
              go_wp2_with (first
                | (go_at_call 30; refine (HPa.out _).mono ?_; rintro e w5 ⟨rfl, hf5⟩; have G5 := Lib.hid ((Hf2.out.trans hf5).alloc (.cells #[.int .i64 io, .int .i64 ia, .int .i64 ib, .int .i64 im] 23)); have HO5 := Lib.hid (own_fr HPo.out (hf5.alloc (.cells #[.int .i64 io, .int .i64 ia, .int .i64 ib, .int .i64 im] 23)) (by simp)); clear hf5)
                | fail)
              go_roundg (NL - (n + 1))
              case measure => have := Hn.out; omega
              case rel => exact ⟨n + 1, size, pr, pl, by have := Hn.out; omega, by go_num, rfl, HO5.out, HPn.out, HFp.out, HP.out, H4.out, Hs4.out, by have := Hpl.out; omega, G5.out⟩
            · obtain ⟨P5, hP5⟩ : ∃ P5 : Bool, P5 = decide (5 < l.length ∧ l.take 5 = [119, 111, 114, 100, 32]) := ⟨_, rfl⟩
              have HP5 := Lib.hid hP5
              have H0 := Lib.hid h0
              have hTne : T.toList ≠ [] := by rw [HTl.out]; exact h0
              clear hP5 h0
              go_upto_region 19 with (first
                | (go_at_call 30; refine (HPa.out _).mono ?_; rintro e w5 ⟨rfl, hf5⟩; have G5 := Lib.hid ((Hf2.out.trans hf5).alloc (.cells #[.int .i64 io, .int .i64 ia, .int .i64 ib, .int .i64 im] 23)); have HO5 := Lib.hid (own_fr HPo.out (hf5.alloc (.cells #[.int .i64 io, .int .i64 ia, .int .i64 ib, .int .i64 im] 23)) (by simp)); clear hf5)
                | fail)
              generalize (w5.alloc (.cells #[.int .i64 io, .int .i64 ia, .int .i64 ib, .int .i64 im] 23)) = W5 at *
              go_cut [93] (fun v93 wx => v93 = .bool P5 ∧ wx = W5)
              case first =>
                by_cases h5 : 5 < l.length
                · have h6 : (5 : Int) < (T.size : Int) := by omega
                  have h7 : (5 : Int) ≤ (T.size : Int) := by omega
                  obtain ⟨E5, hE5⟩ : ∃ E5, T.extract 0 5 = E5 := ⟨_, rfl⟩
                  have hE6 : E5.toList = l.take 5 := by rw [← hE5, ByteArray.toList_eq, Lib.extract_from_zero, HTd.out]
                  have hE7 : (E5.toList == [119, 111, 114, 100, 32]) = P5 := by
                    rw [hE6, HP5.out, Bool.eq_iff_iff, beq_iff_eq, decide_eq_true_iff]
                    exact ⟨fun h => ⟨h5, h⟩, fun h => h.2⟩
                  clear hE6 hTs hTl h5
                  go_wp2_with fail
                  go_meet
                  exact ⟨rfl, rfl⟩
                · have h6 : ¬ (5 : Int) < (T.size : Int) := by omega
                  have HPf : Hid (P5 = false) := Lib.hid (by rw [HP5.out, decide_eq_false]; exact fun h => h5 h.1)
                  clear hTs hTl h5
                  go_wp2_with fail
                  go_meet
                  exact ⟨by rw [HPf.out], rfl⟩
              case rest =>
                obtain ⟨rfl, rfl⟩ := hcut
                go_upto_if 93 with fail
                go_cut [15, 16] (fun v15 v16 wx => ∃ (u : Nat) (wb : Bool), v15 = .int .i64 (u : Int) ∧ v16 = .bool wb ∧ (wb && decide (u < 4294967296)) = (wordK l).isSome ∧ wx = wc)
                case first =>
                  by_cases h5 : 5 < l.length ∧ l.take 5 = [119, 111, 114, 100, 32]
                  · obtain rfl : P5 = true := by rw [HP5.out, decide_eq_true h5]
                    have h7 : (5 : Int) ≤ (T.size : Int) := by omega
                    obtain ⟨D5, hD5⟩ : ∃ D5, T.extract 5 T.size = D5 := ⟨_, rfl⟩
                    obtain ⟨hD6, hD7⟩ : D5.data.toList = l.drop 5 ∧ D5.size ≤ 281474976710656 := drop_facts HTd.out Hl8.out hD5
                    have HN := Lib.hid (fun W => num_call D5 hD7 (congrArg numR hD6) W)
                    have HW5 := Lib.hid (word_yes h5).symm
                    generalize numR (l.drop 5) = NR at *
                    clear hD6 hD7 hTs hTl h5
                    go_wp2_with (first
                      | (go_at_call 41; refine (HN.out _).mono ?_; rintro e w6 ⟨rfl, rfl⟩)
                      | fail)
                    go_meet
                    exact ⟨_, _, rfl, rfl, HW5.out, rfl⟩
                  · obtain rfl : P5 = false := by rw [HP5.out, decide_eq_false h5]
                    have HW5 := Lib.hid (word_no h5)
                    clear hTs hTl h5
                    go_wp2_with fail
                    go_meet
                    exact ⟨0, false, rfl, rfl, by rw [HW5.out]; rfl, rfl⟩
                case rest =>
                  obtain ⟨u, wb, rfl, rfl, hwd, rfl⟩ := hcut
                  have HWd := Lib.hid hwd
                  obtain ⟨m, b, X, hb, hX, hXe, hXs, hm1, hm3, hm4, hm5, hm6, hm7, hidx, hTe⟩ := last_facts HTd.out H0.out Hl8.out
                  have Hb := Lib.hid hb
                  have HX := Lib.hid hX
                  have HXs := Lib.hid hXs
                  obtain ⟨LB, hLB⟩ : ∃ LB, LB = labB l b := ⟨_, rfl⟩
                  have HLB := Lib.hid hLB
                  clear hwd hb hX hXs hLB hTs hTl hTne
                  go_upto_region 23 with fail
                  go_cut [105] (fun v105 wx => v105 = .bool LB ∧ wx = wc)
                  case first =>
                    by_cases h58 : b = 58
                    · have hi58 : ∀ h, (T[m]'h).toNat = 58 := by rw [h58] at hidx; exact hidx
                      have HLb : Hid (∀ W, Calls Tryz.prog 42 #[.string X] W fun e w' => e = .returned (.bool LB) ∧ W = w') := Lib.hid (fun W => lab_call X HXs.out (by rw [HX.out, HLB.out]; unfold labB; rw [h58]; rfl) W)
                      clear hidx h58
                      go_wp2_with (first
                        | (go_at_call 42; refine (HLb.out _).mono ?_; rintro e w6 ⟨rfl, rfl⟩)
                        | fail)
                      go_meet
                      exact ⟨rfl, rfl⟩
                    · have hq : ((b.toNat : Int) == 58) = false := u8_ne h58
                      have HLf : Hid (LB = false) := Lib.hid (by rw [HLB.out]; unfold labB; rw [decide_eq_false h58]; rfl)
                      clear h58
                      go_wp2_with fail
                      go_meet
                      exact ⟨by rw [HLf.out], rfl⟩
                  case rest =>
                    obtain ⟨rfl, rfl⟩ := hcut
                    clear hidx
                    cases LB with
                    | true =>
                      obtain ⟨hk1, hk2, rfl⟩ := labB_line H0.out Hb.out HLB.out.symm
                      have hp := Hp.out
                      rw [hk1, pass1_lab] at hp
                      obtain ⟨g2, cp2, rfl, hpat⟩ := own_places (n := 0) HO5.out HPn.out
                      have hfi := findI_same HFp.out l.dropLast
                      have HFi : Hid (∀ W, Fr [] wc W → Calls Tryz.prog 43 #[.slice (some ⟨g2, 0, none⟩) pr.length cp2, .string X] W fun e w' => e = .returned (.int .i64 (findI pr l.dropLast)) ∧ W = w') := Lib.hid (fun W hW => by
                        rw [HX.out]
                        exact rFind_any pr l.dropLast g2 cp2 W (hpat W hW) (Nat.le_trans Hpl.out HN6.out))
                      rw [hfi] at HFi
                      cases hd : findP pl l.dropLast with
                      | some a =>
                        simp only [hd, Option.isSome_some, if_true] at hp
                        rw [hd] at HFi
                        have HFi : Hid (∀ W, Fr [] wc W → Calls Tryz.prog 43 #[.slice (some ⟨g2, 0, none⟩) pr.length cp2, .string X] W fun e w' => e = .returned (.int .i64 (a : Int)) ∧ W = w') := HFi
                        have HRR : Hid (R = ([], n + 1, 93)) := Lib.hid (by rw [HAs.out, asmK_no (HP1.out.symm.trans hp.symm)])
                        have ha0 : (0 : Int) ≤ (a : Int) := Int.natCast_nonneg a
                        clear hp hd hfi hk1 hk2 hpat
                        go_wp2_with (first
                          | (go_at_call 43; refine (HFi.out _ (Fr.refl _ _)).mono ?_; rintro e w6 ⟨rfl, rfl⟩)
                          | fail)
                        go_ret3
                        exact ⟨by rw [HRR.out]; rfl, HFw.out.trans G5.out⟩
                      | none =>
                        simp only [hd, Option.isSome_none, if_false, Bool.false_eq_true] at hp
                        rw [hd] at HFi
                        have HFi : Hid (∀ W, Fr [] wc W → Calls Tryz.prog 43 #[.slice (some ⟨g2, 0, none⟩) pr.length cp2, .string X] W fun e w' => e = .returned (.int .i64 (-1)) ∧ W = w') := HFi
                        have HPq := Lib.hid hp
                        have HNw : Hid (∀ (j : Nat) (u : Value), ([.string X, .int .i64 (size : Int)] : List Value)[j]? = some u → (wc.alloc (.cells #[.string X, .int .i64 (size : Int)] 70)).cell? ((⟨wc.heap.size, 0, none⟩ : Addr).add j) = some u) := Lib.hid (by rw [HX.out]; exact newsP wc l.dropLast size)
                        have HO6 := Lib.hid (own_fr HO5.out ((Fr.refl [] wc).alloc (.cells #[.string X, .int .i64 (size : Int)] 70)) (by simp))
                        have HB6 : Hid (Wa.heap.size ≤ (wc.alloc (.cells #[.string X, .int .i64 (size : Int)] 70)).heap.size) := Lib.hid (((G5.out).alloc (.cells #[.string X, .int .i64 (size : Int)] 70)).size)
                        have hq1m : pr.length + 1 ≤ maxLen := Nat.le_trans (Nat.succ_le_succ (Nat.le_trans Hpl.out HN6.out)) (by unfold maxLen; decide)
                        have hq2m : (pr.length + 1) * 24 ≤ 140737488355328 := Nat.le_trans (Nat.mul_le_mul_right 24 (Nat.succ_le_succ (Nat.le_trans Hpl.out HN6.out))) (by decide)
                        have hs6 : ¬ (4096 : Int) < (size : Int) := by have := Hs4.out; omega
                        have HFs : Hid (∀ x, findP (pr ++ [(l.dropLast, size)]) x = findP ((l.dropLast, size) :: pl) x) := Lib.hid (findP_snoc HFp.out hd)
                        clear hp hd hfi hk1 hk2 hpat
                        go_wp2_with (first
                          | (go_at_call 43; refine (HFi.out _ (Fr.refl _ _)).mono ?_; rintro e w6 ⟨rfl, rfl⟩)
                          | (at_builtin; go_must (refine wpList_append_own _ rfl _ _ 67 rfl Wa.heap.size 70 p0 (.agg #[.string ⟨#[]⟩, .int .i64 0]) 2 24 Tryz.underlying67 hp0 hq0 hq1 hq2 rfl (Nat.succ_pos 1) _ pr.length (pcs pr) rfl HO6.out ⟨wc.heap.size, 0, none⟩ 1 1 [.string X, .int .i64 (size : Int)] rfl rfl HNw.out (by simp [Value.oneCell']) hq1m hq2m HB6.out ?_; intro v3 w3 ho3 hg3 hn3; have HO4 := Lib.hid ho3; have HN4 := Lib.hid hn3; have HF4 := Lib.hid ((G5.out.alloc _).own HO6.out hg3); clear ho3 hg3 hn3))
                          | fail)
                        go_roundg (NL - (n + 1))
                        case measure => have := Hn.out; omega
                        case rel => exact ⟨n + 1, size, pr ++ [(l.dropLast, size)], (l.dropLast, size) :: pl, by have := Hn.out; omega, by go_num, rfl, by rw [pcs_snoc, ← HX.out, List.length_append]; exact HO4.out, fun e => by have := HN4.out.1 e; exact absurd this.2 (by decide), HFs.out, HPq.out, H4.out.put _, Hs4.out, by rw [List.length_append]; exact Nat.succ_le_succ Hpl.out, HF4.out⟩
                    | false =>
                      have hp := Hp.out
                      rw [labB_code H0.out Hb.out HLB.out.symm HIs.out] at hp
                      obtain ⟨BB, hBB⟩ : ∃ BB : Bool, BB = (is || (wordK l).isSome) := ⟨_, rfl⟩
                      rw [← hBB] at hp
                      have HP2 := Lib.hid hp
                      have HBB : Hid (BB = (is || (wb && decide (u < 4294967296)))) := Lib.hid (by rw [hBB, HWd.out])
                      clear hp hBB
                      go_upto_region 27 with fail
                      go_cut [140] (fun v140 wx => v140 = .bool BB ∧ wx = wc)
                      case first =>
                        cases is with
                        | true =>
                          go_wp2_with fail
                          go_meet
                          exact ⟨by rw [HBB.out]; rfl, rfl⟩
                        | false =>
                          cases wb with
                          | false =>
                            go_wp2_with fail
                            go_meet
                            exact ⟨by rw [HBB.out]; rfl, rfl⟩
                          | true =>
                            by_cases hu : u < 4294967296
                            · have hu1 : (u : Int) < 4294967296 := by omega
                              have HBt : Hid (BB = true) := Lib.hid (by rw [HBB.out, decide_eq_true hu]; rfl)
                              clear hu
                              go_wp2_with fail
                              go_meet
                              exact ⟨by rw [HBt.out], rfl⟩
                            · have hu1 : ¬ (u : Int) < 4294967296 := by omega
                              have HBt : Hid (BB = false) := Lib.hid (by rw [HBB.out, decide_eq_false hu]; rfl)
                              clear hu
                              go_wp2_with fail
                              go_meet
                              exact ⟨by rw [HBt.out], rfl⟩
                      case rest =>
                        obtain ⟨rfl, rfl⟩ := hcut
                        cases BB with
                        | false =>
                          have HRR : Hid (R = ([], n + 1, 92)) := Lib.hid (by rw [HAs.out, asmK_no (HP1.out.symm.trans HP2.out.symm)])
                          go_wp2_with fail
                          go_ret3
                          exact ⟨by rw [HRR.out]; rfl, HFw.out.trans G5.out⟩
                        | true =>
                          have hp : (if 4096 < size + 4 then AR.bad (n + 1) 94 else pass1 ((ws.drop (n + 1)).map lineK) (n + 1) (size + 4) pl) = P1 := HP2.out
                          by_cases hbig : 4096 < size + 4
                          · have hbi : (4096 : Int) < (size : Int) + 4 := by omega
                            rw [if_pos hbig] at hp
                            have HRR : Hid (R = ([], n + 1, 94)) := Lib.hid (by rw [HAs.out, asmK_no (HP1.out.symm.trans hp.symm)])
                            clear hp hbig
                            go_wp2_with fail
                            go_ret3
                            exact ⟨by rw [HRR.out]; rfl, HFw.out.trans G5.out⟩
                          · have hbi : ¬ (4096 : Int) < (size : Int) + 4 := by omega
                            rw [if_neg hbig] at hp
                            have HPq := Lib.hid hp
                            have HBig := Lib.hid hbig
                            clear hp hbig
                            go_wp2_with fail
                            go_roundg (NL - (n + 1))
                            case measure => have := Hn.out; omega
                            case rel => exact ⟨n + 1, size + 4, pr, pl, by have := Hn.out; omega, by go_num, by go_num, HO5.out, HPn.out, HFp.out, HPq.out, H4.out.more, by have := HBig.out; omega, by have := Hpl.out; omega, G5.out⟩
          · have hnN : n = NL := by omega
            have hd : ws.drop n = [] := List.drop_of_length_le (by have := HNL.out; omega)
            rw [hd] at hp
            have HPF : Hid (P1 = .fine (size, pl)) := Lib.hid hp.symm
            have HAr : Hid (R = told (pass2 (ws.map lineK) 0 [] pl)) := Lib.hid (by rw [HAs.out, asmK_go (HP1.out.symm.trans HPF.out)])
            have HNb : Hid (∀ x, x ∈ ws → lineK x ≠ .bad) := Lib.hid (fun x hx => pass1_nobad _ _ _ _ (HP1.out.symm.trans HPF.out) _ (List.mem_map_of_mem hx))
            have hlt1 : ¬ (n : Int) < (NL : Int) := by omega
            obtain ⟨P2, hP2⟩ : ∃ P2, P2 = pass2 (ws.map lineK) 0 [] pl := ⟨_, rfl⟩
            rw [← hP2] at HAr
            have HP2 := Lib.hid hP2
            obtain ⟨g2, cp2, rfl, hpat⟩ := own_places (n := 0) ho hne
            have HPat : Hid (∀ W, Fr [] wr W → PlAt W g2 pr) := Lib.hid hpat
            have hpl6 : pr.length ≤ 1000000 := by have := HNL.out; have := HWl.out; omega
            have HPl6 := Lib.hid hpl6
            have HFw2 : Hid (Fr [] w wr) := Lib.hid (HFw.out.trans hf2)
            clear hn ho hne hfp h4 hs4 hpl hf2 hp hP2 hpat hd hnN hlt HPF HAs HP1 HPo HPn HP0 HG0 hpl6 p0 hp0 hq0 hq1 hq2 j0 hj0 hy0 hy1 hy2 HB HX HFw HSz
            go_wp2_with fail
            obtain ⟨Wb, rfl⟩ : ∃ W, W = wr := ⟨_, rfl⟩
            go_loopg [17, 18] NL (fun gg v17 v18 wr => ∃ (m : Nat) (out : List UInt8) (O : ByteArray), m + gg = NL ∧ v18 = .int .i64 (m : Int) ∧ v17 = .string O ∧ O = ⟨out.toArray⟩ ∧ Fr [] Wb wr ∧ pass2 ((ws.drop m).map lineK) m out pl = P2 ∧ out.length % 4 = 0 ∧ out.length ≤ 4 * m)
            case atStart => exact ⟨0, [], _, by omega, rfl, rfl, rfl, Fr.refl _ _, HP2.out.symm, rfl, Nat.le_refl _⟩
            case round =>
              obtain ⟨m, out, O, hm, rfl, rfl, hO, hf3, hp, ho4, hom⟩ := hrel
              have Hm2 := Lib.hid hm
              have HO := Lib.hid hO
              have Hf3 := Lib.hid hf3
              have Ho4 := Lib.hid ho4
              have Hom := Lib.hid hom
              have hOs : O.size = out.length := by rw [hO]; rfl
              have HOs := Lib.hid hOs
              have hN9 : NL ≤ 32769 := by have := HNL.out; have := HWl.out; omega
              by_cases hlt : m < NL
              · obtain ⟨l, hl⟩ : ∃ l, ws[m]? = some l := ⟨_, List.getElem?_eq_getElem (by have := HNL.out; omega)⟩
                have hmem := List.mem_of_getElem? hl
                have hl8 := HMl.out l hmem
                have hnb := HNb.out l hmem
                have c1 := HC.out m l hl wr (Hf2.out.trans hf3)
                have hO9 : O.size ≤ 131072 := by omega
                have HO9 := Lib.hid hO9
                have hlt1 : (m : Int) < (NL : Int) := by omega
                have hn0 : (0 : Int) ≤ (m : Int) := by omega
                have hwr : IntKind.i64.wrap ((m : Int) + 1) = (m : Int) + 1 := IntWalk.i64_in _ (by omega)
                rw [drop_map lineK hl] at hp
                obtain ⟨T, hT⟩ : ∃ T : ByteArray, T = ⟨l.toArray⟩ := ⟨_, rfl⟩
                rw [← hT] at c1
                have hTl : T.toList = l := by rw [hT]; exact Lib.toList_data _
                have hTd : T.data.toList = l := by rw [hT]
                have hTs : T.size = l.length := by rw [hT]; rfl
                have HPa := Lib.hid (fun W => rparse_any T true (by omega) W)
                rw [hTd] at HPa
                have HTl := Lib.hid hTl
                have HTd := Lib.hid hTd
                have HTs := Lib.hid hTs
                have Hl8 := Lib.hid hl8
                clear hm hO hf3 ho4 hom hOs hl hmem hO9 hT hTd hlt hN9
                cases hrd : readG numP (fun _ => numP) true l with
                | none =>
                  have hR0 := readR_none hrd
                  generalize readR true l = RR at *
                  obtain ⟨⟨io, ia, ib, im⟩, lb, is⟩ := RR
                  simp only at HPa hR0
                  subst hR0
                  by_cases hP : 5 < l.length ∧ l.take 5 = [119, 111, 114, 100, 32]
                  · obtain ⟨v, hv1, hv2, hv3⟩ := word_at hP hrd hnb
                    rw [hv2, pass2_wrd] at hp
                    have HX := Lib.hid hp
                    have h6 : (5 : Int) < (T.size : Int) := by omega
                    have h7 : (5 : Int) ≤ (T.size : Int) := by omega
                    obtain ⟨E5, hE5⟩ : ∃ E5, T.extract 0 5 = E5 := ⟨_, rfl⟩
                    have hE7 : (E5.toList == [119, 111, 114, 100, 32]) = true := by rw [← hE5, ByteArray.toList_eq, Lib.extract_from_zero, HTd.out, hP.2]; rfl
                    obtain ⟨D5, hD5⟩ : ∃ D5, T.extract 5 T.size = D5 := ⟨_, rfl⟩
                    obtain ⟨hD6, hD7⟩ : D5.data.toList = l.drop 5 ∧ D5.size ≤ 281474976710656 := drop_facts HTd.out Hl8.out hD5
                    have HN : Hid (∀ W, Calls Tryz.prog 41 #[.string D5] W fun e w' => e = .returned (.tuple #[.int .i64 (v : Int), .bool true]) ∧ W = w') := Lib.hid (fun W => num_call D5 hD7 (o := some v) (by rw [hD6, hv1]) W)
                    have HFo := Lib.hid (fun W => rFour_any v (by omega) W)
                    obtain ⟨E, hE⟩ : ∃ E : ByteArray, E = ⟨(fourB v).toArray⟩ := ⟨_, rfl⟩
                    have hEs : E.size = 4 := by rw [hE]; exact fourB_len v
                    have hcat : ¬ 9223372036854775807 < O.size + E.size := by have := HO9.out; omega
                    have HCat : Hid (O ++ E = ⟨(out ++ fourB v).toArray⟩) := Lib.hid (by rw [HO.out, hE]; exact bcat _ _)
                    rw [← hE] at HFo
                    clear hp hTs hTl hl8 hnb hrd hP hv1 hv2 hv3 hD6 hD7 hE hEs
                    go_wp2_with (first
                      | (go_at_call 30; refine (HPa.out _).mono ?_; rintro e w4 ⟨rfl, hf4⟩; have HZ4 := Lib.hid (Hf3.out.trans hf4); have G4 := Lib.hid ((Hf3.out.trans hf4).alloc (.cells #[.int .i64 io, .int .i64 ia, .int .i64 ib, .int .i64 im] 23)); have B4 := Lib.hid (Blk.new w4 23 #[.int .i64 io, .int .i64 ia, .int .i64 ib, .int .i64 im]); clear hf4; have c0 : (w4.alloc (.cells #[.int .i64 io, .int .i64 ia, .int .i64 ib, .int .i64 im] 23)).cell? ⟨w4.heap.size, 0, none⟩ = some (.int .i64 io) := B4.out.cell 0; have c1 : (w4.alloc (.cells #[.int .i64 io, .int .i64 ia, .int .i64 ib, .int .i64 im] 23)).cell? ⟨w4.heap.size, 1, none⟩ = some (.int .i64 ia) := B4.out.cell 1; have c2 : (w4.alloc (.cells #[.int .i64 io, .int .i64 ia, .int .i64 ib, .int .i64 im] 23)).cell? ⟨w4.heap.size, 2, none⟩ = some (.int .i64 ib) := B4.out.cell 2; have c3 : (w4.alloc (.cells #[.int .i64 io, .int .i64 ia, .int .i64 ib, .int .i64 im] 23)).cell? ⟨w4.heap.size, 3, none⟩ = some (.int .i64 im) := B4.out.cell 3; have z4 := B4.out.frozen)
                      | (go_at_call 41; refine (HN.out _).mono ?_; rintro e w6 ⟨rfl, rfl⟩)
                      | (go_at_call 44; refine (HFo.out _).mono ?_; rintro e w8 ⟨rfl, hf8⟩; have G8 := Lib.hid (G4.out.trans hf8); clear hf8)
                      | fail)
                    go_roundg (NL - (m + 1))
                    case measure => have := Hm2.out; omega
                    case rel => exact ⟨m + 1, out ++ fourB v, O ++ E, by have := Hm2.out; omega, by go_num, rfl, HCat.out, G8.out, HX.out, by rw [List.length_append, fourB_len]; have := Ho4.out; omega, by rw [List.length_append, fourB_len]; have := Hom.out; omega⟩
                  · rw [lineK_rest hrd (word_no hP)] at hp
                    have HX := Lib.hid hp
                    by_cases h5 : 5 < l.length
                    · have h6 : (5 : Int) < (T.size : Int) := by omega
                      have h7 : (5 : Int) ≤ (T.size : Int) := by omega
                      obtain ⟨E5, hE5⟩ : ∃ E5, T.extract 0 5 = E5 := ⟨_, rfl⟩
                      have hE7 : (E5.toList == [119, 111, 114, 100, 32]) = false := by
                        rw [← hE5, ByteArray.toList_eq, Lib.extract_from_zero, HTd.out]
                        exact beq_eq_false_iff_ne.2 (fun h => hP ⟨h5, h⟩)
                      clear hp hTs hTl hl8 hnb hrd hP h5
                      go_wp2_with (first
                        | (go_at_call 30; refine (HPa.out _).mono ?_; rintro e w4 ⟨rfl, hf4⟩; have HZ4 := Lib.hid (Hf3.out.trans hf4); have G4 := Lib.hid ((Hf3.out.trans hf4).alloc (.cells #[.int .i64 io, .int .i64 ia, .int .i64 ib, .int .i64 im] 23)); have B4 := Lib.hid (Blk.new w4 23 #[.int .i64 io, .int .i64 ia, .int .i64 ib, .int .i64 im]); clear hf4; have c0 : (w4.alloc (.cells #[.int .i64 io, .int .i64 ia, .int .i64 ib, .int .i64 im] 23)).cell? ⟨w4.heap.size, 0, none⟩ = some (.int .i64 io) := B4.out.cell 0; have c1 : (w4.alloc (.cells #[.int .i64 io, .int .i64 ia, .int .i64 ib, .int .i64 im] 23)).cell? ⟨w4.heap.size, 1, none⟩ = some (.int .i64 ia) := B4.out.cell 1; have c2 : (w4.alloc (.cells #[.int .i64 io, .int .i64 ia, .int .i64 ib, .int .i64 im] 23)).cell? ⟨w4.heap.size, 2, none⟩ = some (.int .i64 ib) := B4.out.cell 2; have c3 : (w4.alloc (.cells #[.int .i64 io, .int .i64 ia, .int .i64 ib, .int .i64 im] 23)).cell? ⟨w4.heap.size, 3, none⟩ = some (.int .i64 im) := B4.out.cell 3; have z4 := B4.out.frozen)
                        | fail)
                      go_roundg (NL - (m + 1))
                      case measure => have := Hm2.out; omega
                      case rel => exact ⟨m + 1, out, O, by have := Hm2.out; omega, by go_num, rfl, HO.out, G4.out, HX.out, Ho4.out, by have := Hom.out; omega⟩
                    · have h6 : ¬ (5 : Int) < (T.size : Int) := by omega
                      clear hp hTs hTl hl8 hnb hrd hP h5
                      go_wp2_with (first
                        | (go_at_call 30; refine (HPa.out _).mono ?_; rintro e w4 ⟨rfl, hf4⟩; have HZ4 := Lib.hid (Hf3.out.trans hf4); have G4 := Lib.hid ((Hf3.out.trans hf4).alloc (.cells #[.int .i64 io, .int .i64 ia, .int .i64 ib, .int .i64 im] 23)); have B4 := Lib.hid (Blk.new w4 23 #[.int .i64 io, .int .i64 ia, .int .i64 ib, .int .i64 im]); clear hf4; have c0 : (w4.alloc (.cells #[.int .i64 io, .int .i64 ia, .int .i64 ib, .int .i64 im] 23)).cell? ⟨w4.heap.size, 0, none⟩ = some (.int .i64 io) := B4.out.cell 0; have c1 : (w4.alloc (.cells #[.int .i64 io, .int .i64 ia, .int .i64 ib, .int .i64 im] 23)).cell? ⟨w4.heap.size, 1, none⟩ = some (.int .i64 ia) := B4.out.cell 1; have c2 : (w4.alloc (.cells #[.int .i64 io, .int .i64 ia, .int .i64 ib, .int .i64 im] 23)).cell? ⟨w4.heap.size, 2, none⟩ = some (.int .i64 ib) := B4.out.cell 2; have c3 : (w4.alloc (.cells #[.int .i64 io, .int .i64 ia, .int .i64 ib, .int .i64 im] 23)).cell? ⟨w4.heap.size, 3, none⟩ = some (.int .i64 im) := B4.out.cell 3; have z4 := B4.out.frozen)
                        | fail)
                      go_roundg (NL - (m + 1))
                      case measure => have := Hm2.out; omega
                      case rel => exact ⟨m + 1, out, O, by have := Hm2.out; omega, by go_num, rfl, HO.out, G4.out, HX.out, Ho4.out, by have := Hom.out; omega⟩
                | some p =>
                  obtain ⟨⟨io, ra, rb, rm⟩, lb⟩ := p
                  rw [readR_some hrd] at HPa
                  simp only at HPa
                  rw [lineK_ins hrd, pass2_ins] at hp
                  have hlb := label_len hrd
                  obtain ⟨k, hk30, hop, hok⟩ := ins_is hrd
                  simp only at hop
                  subst hop
                  by_cases hrl : lb = []
                  · rw [if_pos hrl] at hp
                    subst hrl
                    have HX := Lib.hid hp
                    have HE := Lib.hid (fun W => rEncode_good ⟨k, ra, rb, rm⟩ k hk30 rfl hok W)
                    unfold encS at HE
                    obtain ⟨E, hE⟩ : ∃ E : ByteArray, E = ⟨(encL ⟨k, ra, rb, rm⟩).toArray⟩ := ⟨_, rfl⟩
                    have hEs : E.size = 4 := by rw [hE]; exact encL_len _
                    have hcat : ¬ 9223372036854775807 < O.size + E.size := by have := HO9.out; omega
                    have HCat : Hid (O ++ E = ⟨(out ++ encL ⟨k, ra, rb, rm⟩).toArray⟩) := Lib.hid (by rw [HO.out, hE]; exact bcat _ _)
                    rw [← hE] at HE
                    clear hp hTs hTl hl8 hnb hrd hok hE hEs hlb
                    go_wp2_with (first
                      | (go_at_call 30; refine (HPa.out _).mono ?_; rintro e w4 ⟨rfl, hf4⟩; have HZ4 := Lib.hid (Hf3.out.trans hf4); have G4 := Lib.hid ((Hf3.out.trans hf4).alloc (.cells #[.int .i64 (k : Int), .int .i64 ra, .int .i64 rb, .int .i64 rm] 23)); have B4 := Lib.hid (Blk.new w4 23 #[.int .i64 (k : Int), .int .i64 ra, .int .i64 rb, .int .i64 rm]); clear hf4; have c0 : (w4.alloc (.cells #[.int .i64 (k : Int), .int .i64 ra, .int .i64 rb, .int .i64 rm] 23)).cell? ⟨w4.heap.size, 0, none⟩ = some (.int .i64 (k : Int)) := B4.out.cell 0; have c1 : (w4.alloc (.cells #[.int .i64 (k : Int), .int .i64 ra, .int .i64 rb, .int .i64 rm] 23)).cell? ⟨w4.heap.size, 1, none⟩ = some (.int .i64 ra) := B4.out.cell 1; have c2 : (w4.alloc (.cells #[.int .i64 (k : Int), .int .i64 ra, .int .i64 rb, .int .i64 rm] 23)).cell? ⟨w4.heap.size, 2, none⟩ = some (.int .i64 rb) := B4.out.cell 2; have c3 : (w4.alloc (.cells #[.int .i64 (k : Int), .int .i64 ra, .int .i64 rb, .int .i64 rm] 23)).cell? ⟨w4.heap.size, 3, none⟩ = some (.int .i64 rm) := B4.out.cell 3; have z4 := B4.out.frozen)
                      | (go_at_call 7; refine (HE.out _).mono ?_; rintro e w8 ⟨rfl, hf8⟩; have G8 := Lib.hid (G4.out.trans hf8); clear hf8)
                      | fail)
                    go_roundg (NL - (m + 1))
                    case measure => have := Hm2.out; omega
                    case rel => exact ⟨m + 1, out ++ encL ⟨k, ra, rb, rm⟩, O ++ E, by have := Hm2.out; omega, by go_num, rfl, HCat.out, G8.out, HX.out, by rw [List.length_append, encL_len]; have := Ho4.out; omega, by rw [List.length_append, encL_len]; have := Hom.out; omega⟩
                  · rw [if_neg hrl] at hp
                    obtain ⟨LT, hLT⟩ : ∃ LT : ByteArray, LT = ⟨lb.toArray⟩ := ⟨_, rfl⟩
                    rw [← hLT] at HPa
                    have hLl : LT.toList = lb := by rw [hLT]; exact Lib.toList_data _
                    have hE1 : LT.toList.isEmpty = false := by rw [hLl]; cases lb with | nil => exact absurd rfl hrl | cons b r => rfl
                    have hE2 : (LT.toList == []) = false := by rw [hLl]; cases lb with | nil => exact absurd rfl hrl | cons b r => rfl
                    have hE3 : (LT.toList != []) = true := by rw [hLl]; cases lb with | nil => exact absurd rfl hrl | cons b r => rfl
                    have hfi := findI_same HFp.out lb
                    have HFi : Hid (∀ W, Fr [] Wb W → Calls Tryz.prog 43 #[.slice (some ⟨g2, 0, none⟩) pr.length cp2, .string LT] W fun e w' => e = .returned (.int .i64 (findI pr lb)) ∧ W = w') := Lib.hid (fun W hW => by
                      rw [hLT]
                      exact rFind_any pr lb g2 cp2 W (HPat.out W hW) HPl6.out)
                    rw [hfi] at HFi
                    have ho5 := HO9.out
                    have hos := HOs.out
                    clear hTs hTl hl8 hnb hrd hok hlb hrl hLT hfi hLl
                    cases hfd : findP pl lb with
                    | none =>
                      rw [hfd] at hp HFi
                      have HFi : Hid (∀ W, Fr [] Wb W → Calls Tryz.prog 43 #[.slice (some ⟨g2, 0, none⟩) pr.length cp2, .string LT] W fun e w' => e = .returned (.int .i64 (-1)) ∧ W = w') := HFi
                      have HRR : Hid (R = ([], m + 1, 93)) := Lib.hid (by rw [HAr.out, ← hp]; rfl)
                      have a1 : IntKind.i64.wrap (-1 - (O.size : Int)) = -1 - (O.size : Int) := IntWalk.i64_in _ (by omega)
                      have a2 : IntKind.i64.wrap (-1 - (O.size : Int) - 4) = -1 - (O.size : Int) - 4 := IntWalk.i64_in _ (by omega)
                      obtain ⟨y, hy⟩ : ∃ y, IntKind.i64.wrap (Int.tdiv (-1 - (O.size : Int) - 4) 4) = y := ⟨_, rfl⟩
                      clear hp hfd ho5 hos
                      go_wp2_with (first
                        | (go_at_call 30; refine (HPa.out _).mono ?_; rintro e w4 ⟨rfl, hf4⟩; have HZ4 := Lib.hid (Hf3.out.trans hf4); have G4 := Lib.hid ((Hf3.out.trans hf4).alloc (.cells #[.int .i64 (k : Int), .int .i64 ra, .int .i64 rb, .int .i64 rm] 23)); have B4 := Lib.hid (Blk.new w4 23 #[.int .i64 (k : Int), .int .i64 ra, .int .i64 rb, .int .i64 rm]); clear hf4; have c0 : (w4.alloc (.cells #[.int .i64 (k : Int), .int .i64 ra, .int .i64 rb, .int .i64 rm] 23)).cell? ⟨w4.heap.size, 0, none⟩ = some (.int .i64 (k : Int)) := B4.out.cell 0; have c1 : (w4.alloc (.cells #[.int .i64 (k : Int), .int .i64 ra, .int .i64 rb, .int .i64 rm] 23)).cell? ⟨w4.heap.size, 1, none⟩ = some (.int .i64 ra) := B4.out.cell 1; have c2 : (w4.alloc (.cells #[.int .i64 (k : Int), .int .i64 ra, .int .i64 rb, .int .i64 rm] 23)).cell? ⟨w4.heap.size, 2, none⟩ = some (.int .i64 rb) := B4.out.cell 2; have c3 : (w4.alloc (.cells #[.int .i64 (k : Int), .int .i64 ra, .int .i64 rb, .int .i64 rm] 23)).cell? ⟨w4.heap.size, 3, none⟩ = some (.int .i64 rm) := B4.out.cell 3; have z4 := B4.out.frozen)
                        | (go_at_call 43; refine (HFi.out _ (G4.out)).mono ?_; rintro e w5 ⟨rfl, rfl⟩; have B5 := Lib.hid (Blk.new w4 23 #[.int .i64 (k : Int), .int .i64 ra, .int .i64 rb, .int .i64 y]); have G5 := Lib.hid (HZ4.out.alloc (.cells #[.int .i64 (k : Int), .int .i64 ra, .int .i64 rb, .int .i64 y] 23)); have d0 : (w4.alloc (.cells #[.int .i64 (k : Int), .int .i64 ra, .int .i64 rb, .int .i64 y] 23)).cell? ⟨w4.heap.size, 0, none⟩ = some (.int .i64 (k : Int)) := B5.out.cell 0; have d1 : (w4.alloc (.cells #[.int .i64 (k : Int), .int .i64 ra, .int .i64 rb, .int .i64 y] 23)).cell? ⟨w4.heap.size, 1, none⟩ = some (.int .i64 ra) := B5.out.cell 1; have d2 : (w4.alloc (.cells #[.int .i64 (k : Int), .int .i64 ra, .int .i64 rb, .int .i64 y] 23)).cell? ⟨w4.heap.size, 2, none⟩ = some (.int .i64 rb) := B5.out.cell 2; have d3 : (w4.alloc (.cells #[.int .i64 (k : Int), .int .i64 ra, .int .i64 rb, .int .i64 y] 23)).cell? ⟨w4.heap.size, 3, none⟩ = some (.int .i64 y) := B5.out.cell 3)
                        | fail)
                      go_ret3
                      exact ⟨by rw [HRR.out]; rfl, HFw2.out.trans G5.out⟩
                    | some at_ =>
                      rw [hfd] at hp HFi
                      simp only [Int.toNat_natCast] at hp
                      have HFi : Hid (∀ W, Fr [] Wb W → Calls Tryz.prog 43 #[.slice (some ⟨g2, 0, none⟩) pr.length cp2, .string LT] W fun e w' => e = .returned (.int .i64 (at_ : Int)) ∧ W = w') := HFi
                      obtain ⟨hat4, hat⟩ := H4.out.2 lb at_ hfd
                      have hs4' := Hs4.out
                      have ha0 : ¬ (at_ : Int) < 0 := by omega
                      have a1 : IntKind.i64.wrap ((at_ : Int) - (O.size : Int)) = (at_ : Int) - (O.size : Int) := IntWalk.i64_in _ (by omega)
                      have a2 : IntKind.i64.wrap ((at_ : Int) - (O.size : Int) - 4) = (at_ : Int) - (O.size : Int) - 4 := IntWalk.i64_in _ (by omega)
                      have hway := way_t hat4 Ho4.out
                      have hwb : -9223372036854775808 ≤ way at_ out.length ∧ way at_ out.length ≤ 9223372036854775807 := by unfold way; omega
                      have a3 : IntKind.i64.wrap (Int.tdiv ((at_ : Int) - (O.size : Int) - 4) 4) = way at_ out.length := by rw [hos, hway]; exact IntWalk.i64_in _ hwb
                      have HCk := Lib.hid (fun W => rCheck_in ⟨k, ra, rb, way at_ out.length⟩ k hk30 rfl W)
                      rw [okI_eq _ hk30] at HCk
                      have HE0 := fun (h : okL ⟨k, ra, rb, way at_ out.length⟩ k = true) W => rEncode_good ⟨k, ra, rb, way at_ out.length⟩ k hk30 rfl h W
                      generalize way at_ out.length = y at *
                      clear hfd ho5 hos hway hwb hat hat4 hs4'
                      by_cases hok2 : okL ⟨k, ra, rb, y⟩ k = true
                      · rw [if_pos hok2] at hp
                        rw [if_pos hok2] at HCk
                        have HX := Lib.hid hp
                        have HE := Lib.hid (HE0 hok2)
                        unfold encS at HE
                        obtain ⟨E, hE⟩ : ∃ E : ByteArray, E = ⟨(encL ⟨k, ra, rb, y⟩).toArray⟩ := ⟨_, rfl⟩
                        have hEs : E.size = 4 := by rw [hE]; exact encL_len _
                        have hcat : ¬ 9223372036854775807 < O.size + E.size := by have := HO9.out; omega
                        have HCat : Hid (O ++ E = ⟨(out ++ encL ⟨k, ra, rb, y⟩).toArray⟩) := Lib.hid (by rw [HO.out, hE]; exact bcat _ _)
                        rw [← hE] at HE
                        clear HE0 hp hok2 hE hEs
                        go_wp2_with (first
                          | (go_at_call 30; refine (HPa.out _).mono ?_; rintro e w4 ⟨rfl, hf4⟩; have HZ4 := Lib.hid (Hf3.out.trans hf4); have G4 := Lib.hid ((Hf3.out.trans hf4).alloc (.cells #[.int .i64 (k : Int), .int .i64 ra, .int .i64 rb, .int .i64 rm] 23)); have B4 := Lib.hid (Blk.new w4 23 #[.int .i64 (k : Int), .int .i64 ra, .int .i64 rb, .int .i64 rm]); clear hf4; have c0 : (w4.alloc (.cells #[.int .i64 (k : Int), .int .i64 ra, .int .i64 rb, .int .i64 rm] 23)).cell? ⟨w4.heap.size, 0, none⟩ = some (.int .i64 (k : Int)) := B4.out.cell 0; have c1 : (w4.alloc (.cells #[.int .i64 (k : Int), .int .i64 ra, .int .i64 rb, .int .i64 rm] 23)).cell? ⟨w4.heap.size, 1, none⟩ = some (.int .i64 ra) := B4.out.cell 1; have c2 : (w4.alloc (.cells #[.int .i64 (k : Int), .int .i64 ra, .int .i64 rb, .int .i64 rm] 23)).cell? ⟨w4.heap.size, 2, none⟩ = some (.int .i64 rb) := B4.out.cell 2; have c3 : (w4.alloc (.cells #[.int .i64 (k : Int), .int .i64 ra, .int .i64 rb, .int .i64 rm] 23)).cell? ⟨w4.heap.size, 3, none⟩ = some (.int .i64 rm) := B4.out.cell 3; have z4 := B4.out.frozen)
                          | (go_at_call 43; refine (HFi.out _ (G4.out)).mono ?_; rintro e w5 ⟨rfl, rfl⟩; have B5 := Lib.hid (Blk.new w4 23 #[.int .i64 (k : Int), .int .i64 ra, .int .i64 rb, .int .i64 y]); have G5 := Lib.hid (HZ4.out.alloc (.cells #[.int .i64 (k : Int), .int .i64 ra, .int .i64 rb, .int .i64 y] 23)); have d0 : (w4.alloc (.cells #[.int .i64 (k : Int), .int .i64 ra, .int .i64 rb, .int .i64 y] 23)).cell? ⟨w4.heap.size, 0, none⟩ = some (.int .i64 (k : Int)) := B5.out.cell 0; have d1 : (w4.alloc (.cells #[.int .i64 (k : Int), .int .i64 ra, .int .i64 rb, .int .i64 y] 23)).cell? ⟨w4.heap.size, 1, none⟩ = some (.int .i64 ra) := B5.out.cell 1; have d2 : (w4.alloc (.cells #[.int .i64 (k : Int), .int .i64 ra, .int .i64 rb, .int .i64 y] 23)).cell? ⟨w4.heap.size, 2, none⟩ = some (.int .i64 rb) := B5.out.cell 2; have d3 : (w4.alloc (.cells #[.int .i64 (k : Int), .int .i64 ra, .int .i64 rb, .int .i64 y] 23)).cell? ⟨w4.heap.size, 3, none⟩ = some (.int .i64 y) := B5.out.cell 3)
                          | (go_at_call 16; refine (HCk.out _).mono ?_; rintro e w7 ⟨rfl, hf7⟩; have B7 := Lib.hid (B5.out.fr hf7 (by simp)); have G7 := Lib.hid (G5.out.trans hf7); clear hf7; have e0 : (w7).cell? ⟨w4.heap.size, 0, none⟩ = some (.int .i64 (k : Int)) := B7.out.cell 0; have e1 : (w7).cell? ⟨w4.heap.size, 1, none⟩ = some (.int .i64 ra) := B7.out.cell 1; have e2 : (w7).cell? ⟨w4.heap.size, 2, none⟩ = some (.int .i64 rb) := B7.out.cell 2; have e3 : (w7).cell? ⟨w4.heap.size, 3, none⟩ = some (.int .i64 y) := B7.out.cell 3)
                          | (go_at_call 7; refine (HE.out _).mono ?_; rintro e w8 ⟨rfl, hf8⟩; have G8 := Lib.hid (G7.out.trans hf8); clear hf8)
                          | fail)
                        go_roundg (NL - (m + 1))
                        case measure => have := Hm2.out; omega
                        case rel => exact ⟨m + 1, out ++ encL ⟨k, ra, rb, y⟩, O ++ E, by have := Hm2.out; omega, by go_num, rfl, HCat.out, G8.out, HX.out, by rw [List.length_append, encL_len]; have := Ho4.out; omega, by rw [List.length_append, encL_len]; have := Hom.out; omega⟩
                      · rw [if_neg hok2] at hp
                        rw [if_neg hok2] at HCk
                        have HRR : Hid (R = ([], m + 1, 93)) := Lib.hid (by rw [HAr.out, ← hp]; rfl)
                        clear HE0 hp hok2
                        go_wp2_with (first
                          | (go_at_call 30; refine (HPa.out _).mono ?_; rintro e w4 ⟨rfl, hf4⟩; have HZ4 := Lib.hid (Hf3.out.trans hf4); have G4 := Lib.hid ((Hf3.out.trans hf4).alloc (.cells #[.int .i64 (k : Int), .int .i64 ra, .int .i64 rb, .int .i64 rm] 23)); have B4 := Lib.hid (Blk.new w4 23 #[.int .i64 (k : Int), .int .i64 ra, .int .i64 rb, .int .i64 rm]); clear hf4; have c0 : (w4.alloc (.cells #[.int .i64 (k : Int), .int .i64 ra, .int .i64 rb, .int .i64 rm] 23)).cell? ⟨w4.heap.size, 0, none⟩ = some (.int .i64 (k : Int)) := B4.out.cell 0; have c1 : (w4.alloc (.cells #[.int .i64 (k : Int), .int .i64 ra, .int .i64 rb, .int .i64 rm] 23)).cell? ⟨w4.heap.size, 1, none⟩ = some (.int .i64 ra) := B4.out.cell 1; have c2 : (w4.alloc (.cells #[.int .i64 (k : Int), .int .i64 ra, .int .i64 rb, .int .i64 rm] 23)).cell? ⟨w4.heap.size, 2, none⟩ = some (.int .i64 rb) := B4.out.cell 2; have c3 : (w4.alloc (.cells #[.int .i64 (k : Int), .int .i64 ra, .int .i64 rb, .int .i64 rm] 23)).cell? ⟨w4.heap.size, 3, none⟩ = some (.int .i64 rm) := B4.out.cell 3; have z4 := B4.out.frozen)
                          | (go_at_call 43; refine (HFi.out _ (G4.out)).mono ?_; rintro e w5 ⟨rfl, rfl⟩; have B5 := Lib.hid (Blk.new w4 23 #[.int .i64 (k : Int), .int .i64 ra, .int .i64 rb, .int .i64 y]); have G5 := Lib.hid (HZ4.out.alloc (.cells #[.int .i64 (k : Int), .int .i64 ra, .int .i64 rb, .int .i64 y] 23)); have d0 : (w4.alloc (.cells #[.int .i64 (k : Int), .int .i64 ra, .int .i64 rb, .int .i64 y] 23)).cell? ⟨w4.heap.size, 0, none⟩ = some (.int .i64 (k : Int)) := B5.out.cell 0; have d1 : (w4.alloc (.cells #[.int .i64 (k : Int), .int .i64 ra, .int .i64 rb, .int .i64 y] 23)).cell? ⟨w4.heap.size, 1, none⟩ = some (.int .i64 ra) := B5.out.cell 1; have d2 : (w4.alloc (.cells #[.int .i64 (k : Int), .int .i64 ra, .int .i64 rb, .int .i64 y] 23)).cell? ⟨w4.heap.size, 2, none⟩ = some (.int .i64 rb) := B5.out.cell 2; have d3 : (w4.alloc (.cells #[.int .i64 (k : Int), .int .i64 ra, .int .i64 rb, .int .i64 y] 23)).cell? ⟨w4.heap.size, 3, none⟩ = some (.int .i64 y) := B5.out.cell 3)
                          | (go_at_call 16; refine (HCk.out _).mono ?_; rintro e w7 ⟨rfl, hf7⟩; have B7 := Lib.hid (B5.out.fr hf7 (by simp)); have G7 := Lib.hid (G5.out.trans hf7); clear hf7; have e0 : (w7).cell? ⟨w4.heap.size, 0, none⟩ = some (.int .i64 (k : Int)) := B7.out.cell 0; have e1 : (w7).cell? ⟨w4.heap.size, 1, none⟩ = some (.int .i64 ra) := B7.out.cell 1; have e2 : (w7).cell? ⟨w4.heap.size, 2, none⟩ = some (.int .i64 rb) := B7.out.cell 2; have e3 : (w7).cell? ⟨w4.heap.size, 3, none⟩ = some (.int .i64 y) := B7.out.cell 3)
                          | fail)
                        go_ret3
                        exact ⟨by rw [HRR.out]; rfl, HFw2.out.trans G7.out⟩
              · have hmn : m = NL := by omega
                have hd : ws.drop m = [] := List.drop_of_length_le (by have := HNL.out; omega)
                rw [hd] at hp
                have HRR : Hid (R = (out, 0, 0)) := Lib.hid (by rw [HAr.out, ← hp]; rfl)
                have hlt1 : ¬ (m : Int) < (NL : Int) := by omega
                clear hm hO hf3 ho4 hom hOs hp hd hmn hlt hN9
                go_wp2_with fail
                go_ret3
                exact ⟨by rw [HRR.out, HO.out]; rfl, HFw2.out.trans Hf3.out⟩
end Go.Proofs.YtjijhjdemkgpgaaGreatDoor

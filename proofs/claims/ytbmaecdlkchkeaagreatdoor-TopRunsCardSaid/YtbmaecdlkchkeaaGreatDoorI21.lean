/- Assemble, of the program. -/
import Derived.Test.YtbmaecdlkchkeaaGreatDoorI17
import Derived.Test.YtbmaecdlkchkeaaGreatDoorI19
import Derived.Test.YtbmaecdlkchkeaaGreatDoorLb
import Derived.Test.YtbmaecdlkchkeaaGreatDoorI20
import Derived.Test.YtbmaecdlkchkeaaGreatDoorI9
namespace Go.Proofs.YtbmaecdlkchkeaaGreatDoor
open Go.RowKit Go.Maps
set_option linter.unusedVariables false
set_option linter.unusedSimpArgs false
set_option maxRecDepth 100000
theorem bstr (s : ByteArray) : (⟨s.data.toList.toArray⟩ : ByteArray) = s := rfl
theorem asmK_no {ks : List LK} {m : Nat} {e : Int} (h : pass1 ks 0 0 [] = .bad m e) : told (asmK ks) = ([], m, e) := by
  unfold asmK
  rw [h]
  rfl
theorem asmK_go {ks : List LK} {z : Nat} {pl : Pl} (h : pass1 ks 0 0 [] = .fine (z, pl)) : asmK ks = pass2 ks 0 [] pl := by
  unfold asmK
  rw [h]
theorem drop_map {α β : Type} (f : α → β) {l : List α} {n : Nat} {x : α} (h : l[n]? = some x) : (l.drop n).map f = f x :: (l.drop (n + 1)).map f := by
  rw [drop_at h]
  rfl
theorem told_fst (r : AR (List UInt8)) : told r = ((told r).1, (told r).2.1, (told r).2.2) := rfl
theorem splitC_count (c : UInt8) : ∀ l : List UInt8, (splitC c l).length ≤ l.length + 1
  | [] => Nat.le_refl _
  | b :: r => by
    have ih := splitC_count c r
    unfold splitC
    split
    · simp only [List.length_cons]
      omega
    · cases hs : splitC c r with
      | nil => simp
      | cons y t =>
        rw [hs] at ih
        simp only [List.length_cons] at ih ⊢
        omega
theorem Bld.made (w : World) : Bld (w.alloc (.cells #[.pointer none, .slice none 0 0] 66)) w.heap.size [] := by
  refine Or.inl ⟨Nat.le_refl _, .slice none 0 0, ?_, ⟨by simp [Lib.byteCells], Or.inl ⟨rfl, rfl⟩⟩, by simp [Value.ownBlock]⟩
  exact Blk.new w 66 #[.pointer none, .slice none 0 0]
theorem Bld.wrote {w' : World} {b : Nat} {out x : List UInt8} (h : Lib.BuilderAt 66 5 b b (.pointer (some ⟨b, 0, none⟩)) (Lib.byteCells out ++ Lib.strCells ⟨x.toArray⟩) w') : Bld w' b (out ++ x) := by
  have e : Lib.byteCells (out ++ x) = Lib.byteCells out ++ Lib.strCells ⟨x.toArray⟩ := by
    rw [Lib.strCells_eq]
    exact List.map_append
  unfold Bld
  rw [e]
  exact Or.inr h
theorem Write_any (b : Nat) (out x : List UInt8) (w : World) (h : Bld w b out) (hl : out.length + x.length ≤ 140737488355328) (hb : b ≤ w.heap.size) : Calls Tryz.prog 23 #[.pointer (some ⟨b, 0, none⟩), .string ⟨x.toArray⟩] w fun e w' => e = .returned (.tuple #[.int .i64 (x.length : Int), .nilIface]) ∧ Bld w' b (out ++ x) ∧ Below b w w' := by
  refine (WriteString_any b b (Lib.byteCells out) ⟨x.toArray⟩ w h (by rw [Lib.byteCells_length]; exact hl) hb).mono ?_
  rintro e w' ⟨rfl, h1, h2⟩
  exact ⟨rfl, Bld.wrote h1, h2⟩
theorem Fr.below_new {w0 w w' : World} (h : Fr [] w0 w) (hb : Below w0.heap.size w w') : Fr [] w0 w' :=
  Fr.of_below ((h.below (Nat.le_refl _) (by simp)).trans hb) (Nat.le_refl _)
set_option maxHeartbeats 8000000 in
theorem Assemble_any (s : ByteArray) (w : World) (hw : Std w) : Calls Tryz.prog 4 #[.string s] w fun e w' => e = .returned (.tuple #[.string ⟨(asm s.data.toList).1.toArray⟩, .int .i64 ((asm s.data.toList).2.1 : Nat), .int .i64 (asm s.data.toList).2.2]) ∧ Fr [] w w' := by
  have hsz : s.data.toList.length = s.size := rfl
  by_cases hbig : 32768 < s.size
  · have hR : asm s.data.toList = ([], 0, 94) := by unfold asm; rw [if_pos (by omega)]
    rw [hR]
    have hb2 : (32768 : Int) < (s.size : Int) := by omega
    clear hR hbig
    go_enter Tryz.func4, Tryz.ntmps4
    go_wp2
    go_ret3
    exact ⟨rfl, Fr.refl _ _⟩
  · have hb2 : ¬ (32768 : Int) < (s.size : Int) := by omega
    have hR : asm s.data.toList = told (asmK ((splitC 10 s.data.toList).map lineK)) := by unfold asm; rw [if_neg (by omega)]
    have HSp := Lib.hid (split_any s (by omega) 10)
    have HLn : Hid (∀ x, x ∈ splitC 10 s.data.toList → x.length ≤ 32768) := Lib.hid (fun x hx => by have := splitC_len 10 _ x hx; omega)
    have HCn : Hid ((splitC 10 s.data.toList).length ≤ 32769) := Lib.hid (by have := splitC_count 10 s.data.toList; omega)
    have HR := Lib.hid hR
    have HStd := Lib.hid hw
    have HRd := Lib.hid (fun (l : List UInt8) (hl : l.length ≤ 32768) W hW => read_any ⟨l.toArray⟩ true (by show l.length ≤ _; omega) W hW)
    have HWd := Lib.hid (fun (l : List UInt8) (hl : l.length ≤ 32768) W hW => word_any ⟨l.toArray⟩ (by show l.length ≤ _; omega) W hW)
    have HCt := Lib.hid (fun (l : List UInt8) (hl : l.length ≤ 32768) W => Tryz.strings_CutSuffix ⟨l.toArray⟩ ⟨#[58]⟩ W (by show l.length ≤ _; omega))
    have HLb := Lib.hid (fun (l : List UInt8) (hl : l.length ≤ 32768) W => label_any ⟨l.toArray⟩ (by show l.length ≤ _; omega) W)
    clear hR hbig hw
    generalize asm s.data.toList = RS at *
    generalize splitC 10 s.data.toList = ls at *
    generalize hN : ls.length = N at *
    have HN := Lib.hid hN
    clear hN
    have hmm := @run_makeMap Tryz.prog
    go_enter Tryz.func4, Tryz.ntmps4
    go_wp2_with (first
      | (go_at_call 18; refine (HSp.out _ HStd.out.mx).mono ?_; rintro e w1 ⟨rfl, rfl⟩)
      | fail)
    have HB0 := Lib.hid (((Blk.new w 9 (rowB ls)).fr ((Fr.refl [] _).alloc (.map #[] 0)) (by simp)))
    have HM0 : Hid (PMap ((w.alloc (.cells (rowB ls) 9)).alloc (.map #[] 0)) (w.heap.size + 1) []) := Lib.hid (by
      have h := PMap.made (w := w.alloc (.cells (rowB ls) 9))
      have e : (w.alloc (.cells (rowB ls) 9)).heap.size = w.heap.size + 1 := by simp
      rw [e] at h
      exact h)
    have HF0 : Hid (Fr [] w ((w.alloc (.cells (rowB ls) 9)).alloc (.map #[] 0))) := Lib.hid (((Fr.refl [] w).alloc _).alloc _)
    generalize hPR : pass1 (ls.map lineK) 0 0 [] = PR at *
    have HPR := Lib.hid hPR
    go_loopg [39, 7] N (fun gg i sz wr => ∃ (n size : Nat) (pl : Pl), n + gg = N ∧ i = .int .i64 (n : Int) ∧ sz = .int .i64 (size : Int) ∧ PMap wr (w.heap.size + 1) pl ∧ Blk wr w.heap.size 9 (rowB ls) ∧ Fr [] w wr ∧ pass1 ((ls.drop n).map lineK) n size pl = PR ∧ Fours size pl ∧ size ≤ 4096 ∧ pl.length ≤ n)
    case atStart => exact ⟨0, 0, [], by omega, rfl, rfl, HM0.out, HB0.out, HF0.out, hPR, ⟨rfl, fun l a h => by cases h⟩, by omega, Nat.le_refl _⟩
    case round =>
      obtain ⟨n, size, pl, hn, rfl, rfl, hm, hb, hf, hp, h4, hs4, hpl⟩ := hrel
      clear hPR
      have Hm := Lib.hid hm
      have Hb := Lib.hid hb
      have Hf := Lib.hid hf
      have Hp := Lib.hid hp
      have H4 := Lib.hid h4
      have Hs4 := Lib.hid hs4
      have Hpl := Lib.hid hpl
      have Hn := Lib.hid hn
      have hcn := HCn.out
      by_cases hlt : n < N
      · obtain ⟨l, hl⟩ : ∃ l, ls[n]? = some l := ⟨_, List.getElem?_eq_getElem (by have := HN.out; omega)⟩
        have hl8 := HLn.out l (List.mem_of_getElem? hl)
        have hcell : wr.cell? ⟨w.heap.size, n, none⟩ = some (.string ⟨l.toArray⟩) := by
          rw [hb.cell n]
          unfold rowB
          rw [List.getElem?_toArray, List.getElem?_map, hl]
          rfl
        have hfz := hb.frozen n
        have hdr := drop_map lineK hl
        rw [hdr] at hp
        have hlt1 : (n : Int) < (N : Int) := by omega
        have hn0 : (0 : Int) ≤ (n : Int) := by omega
        have hN9 : N ≤ 32769 := by have := HN.out; omega
        have hwr : IntKind.i64.wrap ((n : Int) + 1) = (n : Int) + 1 := IntWalk.i64_in _ (by omega)
        have hwr2 : IntKind.i64.wrap ((size : Int) + 4) = (size : Int) + 4 := IntWalk.i64_in _ (by omega)
        have HS0 := Lib.hid (HStd.out.fr hf)
        have HR1 := Lib.hid (HRd.out l hl8)
        have HW1 : Hid (∀ W, Std W → Calls Tryz.prog 20 #[.string ⟨l.toArray⟩] W fun e w' => Fr [] W w' ∧ ∃ v : Int, e = .returned (.tuple #[.int .i64 v, .bool (wordK l).isSome])) := Lib.hid (fun W hW => (HWd.out l hl8 W hW).mono (fun e w' ⟨h1, v, h2, h3⟩ => ⟨h1, v, h2⟩))
        have HC1 := Lib.hid (HCt.out l hl8)
        have hts : (Lib.trimSuffix l [58]).length ≤ 32768 := by
          unfold Lib.trimSuffix
          split
          · rw [List.length_take]
            omega
          · exact hl8
        have HL1 := Lib.hid (HLb.out _ hts)
        have hways := lineK_ways l
        have hcode := fun h0 h1 => pass1_code (s := l) h0 h1 ((ls.drop (n + 1)).map lineK) n size pl
        change Hid (∀ (W : World), Calls _ _ _ W fun e w' => e = .returned (.tuple #[.string ⟨(Lib.trimSuffix l [58]).toArray⟩, .bool (Lib.hasSuffix l [58])]) ∧ w' = W) at HC1
        change Hid (∀ (W : World), Calls _ _ _ W fun e w' => e = .returned (.bool (isLab (Lib.trimSuffix l [58]))) ∧ Fr [] W w') at HL1
        generalize Lib.trimSuffix l [58] = t at *
        generalize Lib.hasSuffix l [58] = nB at *
        generalize readV true l = RV at *
        generalize (wordK l).isSome = wB at *
        obtain ⟨⟨ro, ra, rb, rm⟩, rl, rB⟩ := RV
        have hNx : n + (N - (n + 1) + 1) = N := by omega
        by_cases h0 : l = []
        · rw [if_pos h0] at hways
          rw [hways, pass1_blank] at hp
          have HX := Lib.hid hp
          subst h0
          clear hways hcode hp hdr hl hm hb hf h4 hn hpl hcn
          go_wp2_with (first
            | (go_at_call 19; refine (HR1.out _ HS0.out).mono ?_; rintro e w2 ⟨rfl, hf2⟩; have G2 := Lib.hid (hf2.alloc (.cells #[.int .i64 ro, .int .i64 ra, .int .i64 rb, .int .i64 rm] 55)); clear hf2)
            | (go_at_call 20; refine (HW1.out _ (HS0.out.fr G2.out)).mono ?_; rintro e w3 ⟨hf3, v3, rfl⟩; have G3 := Lib.hid (G2.out.trans hf3); clear hf3)
            | (go_at_call 21; refine (HC1.out _).mono ?_; rintro e w4 ⟨rfl, rfl⟩)
            | fail)
          go_roundg (N - (n + 1))
          case measure => have := Hn.out; omega
          case rel => exact ⟨n + 1, size, pl, by have := Hn.out; omega, by go_num, rfl, Hm.out.fr G3.out (by simp), Hb.out.fr G3.out (by simp), Hf.out.trans G3.out, HX.out, H4.out, Hs4.out, by have := Hpl.out; omega⟩
        · rw [if_neg h0] at hways
          have hE1 : l.isEmpty = false := by cases l with | nil => exact absurd rfl h0 | cons b r => rfl
          have hE2 : (l == []) = false := by cases l with | nil => exact absurd rfl h0 | cons b r => rfl
          by_cases hlab : nB = true ∧ isLab t = true
          · rw [if_pos hlab] at hways
            obtain ⟨hnB, hlB⟩ := hlab
            subst hnB
            rw [hways, pass1_lab] at hp
            have ht12 := (lab_len hlB).1
            rw [hlB] at HL1
            clear hways hcode hdr hl hcn hlB
            cases hfd : findP pl t with
            | some at_ =>
              rw [hfd, if_pos (show (some at_).isSome = true from rfl)] at hp
              have HX := Lib.hid hp
              have HFd := Lib.hid hfd
              have HT := Lib.hid ht12
              clear hp hm hb hf h4 hn hpl hfd
              go_wp2_with (first
                | (go_at_call 19; refine (HR1.out _ HS0.out).mono ?_; rintro e w2 ⟨rfl, hf2⟩; have G2 := Lib.hid (hf2.alloc (.cells #[.int .i64 ro, .int .i64 ra, .int .i64 rb, .int .i64 rm] 55)); clear hf2)
                | (go_at_call 20; refine (HW1.out _ (HS0.out.fr G2.out)).mono ?_; rintro e w3 ⟨hf3, v3, rfl⟩; have G3 := Lib.hid (G2.out.trans hf3); clear hf3)
                | (go_at_call 21; refine (HC1.out _).mono ?_; rintro e w4 ⟨rfl, rfl⟩)
                | (go_at_call 22; refine (HL1.out _).mono ?_; rintro e w5 ⟨rfl, hf5⟩; have G5 := Lib.hid (G3.out.trans hf5); clear hf5; have hlk := PMap.look (Hm.out.fr G5.out (by simp)) t (by have := HT.out; omega); rw [HFd.out] at hlk)
                | fail)
              all_goals
                go_ret3
                refine ⟨?_, Hf.out.trans G5.out⟩
                rw [HR.out, asmK_no (HPR.out.trans HX.out.symm)]
                rfl
            | none =>
              rw [hfd, if_neg (by simp)] at hp
              have HX := Lib.hid hp
              have HFd := Lib.hid hfd
              have HT := Lib.hid ht12
              clear hp hm hb hf h4 hn hpl hfd
              go_wp2_with (first
                | (go_at_call 19; refine (HR1.out _ HS0.out).mono ?_; rintro e w2 ⟨rfl, hf2⟩; have G2 := Lib.hid (hf2.alloc (.cells #[.int .i64 ro, .int .i64 ra, .int .i64 rb, .int .i64 rm] 55)); clear hf2)
                | (go_at_call 20; refine (HW1.out _ (HS0.out.fr G2.out)).mono ?_; rintro e w3 ⟨hf3, v3, rfl⟩; have G3 := Lib.hid (G2.out.trans hf3); clear hf3)
                | (go_at_call 21; refine (HC1.out _).mono ?_; rintro e w4 ⟨rfl, rfl⟩)
                | (go_at_call 22; refine (HL1.out _).mono ?_; rintro e w5 ⟨rfl, hf5⟩; have G5 := Lib.hid (G3.out.trans hf5); clear hf5; have hlk := PMap.look (Hm.out.fr G5.out (by simp)) t (by have := HT.out; omega); rw [HFd.out] at hlk; obtain ⟨w6, hmu, hm6, hf6⟩ := PMap.put (Hm.out.fr G5.out (by simp)) (by have := Hpl.out; have := Hn.out; omega) t (by have := HT.out; omega) (a := size) (by have := Hs4.out; omega); have HM6 := Lib.hid hm6; have HF6 := Lib.hid hf6; clear hm6 hf6)
                | fail)
              all_goals
                go_roundg (N - (n + 1))
                case measure => have := Hn.out; omega
                case rel => exact ⟨n + 1, size, (t, size) :: pl, by have := Hn.out; omega, by go_num, rfl, HM6.out, (Hb.out.fr G5.out (by simp)).fr HF6.out (by simp), (Hf.out.trans G5.out).step HF6.out (fun k hk => Or.inr (by simp at hk; omega)), HX.out, H4.out.put t, Hs4.out, by have := Hpl.out; simp only [List.length_cons]; omega⟩
          · rw [if_neg hlab] at hways
            rw [hcode h0 hlab] at hp
            generalize isLab t = lB at *
            have HLB := Lib.hid hlab
            have HP9 := Lib.hid hp
            clear hways hcode hdr hl hcn hp hm hb hf h4 hn hpl hlab hlt
            have hfin : ∀ B : Bool, B = (rB || wB) → (B = true → 4096 < size + 4 → PR = .bad (n + 1) 94) ∧ (B = true → ¬ 4096 < size + 4 → pass1 ((ls.drop (n + 1)).map lineK) (n + 1) (size + 4) pl = PR) ∧ (B = false → PR = .bad (n + 1) 92) := by
              intro B hB
              have h := HP9.out
              subst hB
              refine ⟨fun h1 h2 => ?_, fun h1 h2 => ?_, fun h1 => ?_⟩
              · rw [if_pos (by simpa using h1), if_pos h2] at h
                exact h.symm
              · rw [if_pos (by simpa using h1), if_neg h2] at h
                exact h
              · rw [if_neg (by intro hc; have : (rB || wB) = true := by simpa using hc
                               rw [h1] at this; cases this)] at h
                exact h.symm
            have HFin := Lib.hid hfin
            clear hfin HP9
            by_cases hB : (rB || wB) = true
            · have HY := Lib.hid ((HFin.out true hB.symm).1 rfl)
              have HZ := Lib.hid ((HFin.out true hB.symm).2.1 rfl)
              by_cases hbig : 4096 < size + 4
              · have hbi : (4096 : Int) < (size : Int) + 4 := by omega
                have HX := Lib.hid (HY.out hbig)
                clear hbig HY HZ HFin
                cases nB <;> cases lB <;> cases rB <;> cases wB <;> first
                  | (exfalso; exact HLB.out ⟨rfl, rfl⟩)
                  | (exfalso; cases hB; done)
                  | skip
                all_goals
                  clear hB
                  go_wp2_with (first
                    | (go_at_call 19; refine (HR1.out _ HS0.out).mono ?_; rintro e w2 ⟨rfl, hf2⟩; have G2 := Lib.hid (hf2.alloc (.cells #[.int .i64 ro, .int .i64 ra, .int .i64 rb, .int .i64 rm] 55)); clear hf2)
                    | (go_at_call 20; refine (HW1.out _ (HS0.out.fr G2.out)).mono ?_; rintro e w3 ⟨hf3, v3, rfl⟩; have G3 := Lib.hid (G2.out.trans hf3); clear hf3)
                    | (go_at_call 21; refine (HC1.out _).mono ?_; rintro e w4 ⟨rfl, rfl⟩)
                    | (go_at_call 22; refine (HL1.out _).mono ?_; rintro e w5 ⟨rfl, hf5⟩; have G3 := Lib.hid (G3.out.trans hf5); clear hf5)
                    | fail)
                all_goals
                  go_ret3
                  refine ⟨?_, by with_reducible exact Hf.out.trans G3.out⟩
                  rw [HR.out, asmK_no (HPR.out.trans HX.out)]
                  rfl
              · have hbi : ¬ (4096 : Int) < (size : Int) + 4 := by omega
                have HBig := Lib.hid hbig
                have HX := Lib.hid (HZ.out hbig)
                clear hbig HY HZ HFin
                cases nB <;> cases lB <;> cases rB <;> cases wB <;> first
                  | (exfalso; exact HLB.out ⟨rfl, rfl⟩)
                  | (exfalso; cases hB; done)
                  | skip
                all_goals
                  clear hB
                  go_wp2_with (first
                    | (go_at_call 19; refine (HR1.out _ HS0.out).mono ?_; rintro e w2 ⟨rfl, hf2⟩; have G2 := Lib.hid (hf2.alloc (.cells #[.int .i64 ro, .int .i64 ra, .int .i64 rb, .int .i64 rm] 55)); clear hf2)
                    | (go_at_call 20; refine (HW1.out _ (HS0.out.fr G2.out)).mono ?_; rintro e w3 ⟨hf3, v3, rfl⟩; have G3 := Lib.hid (G2.out.trans hf3); clear hf3)
                    | (go_at_call 21; refine (HC1.out _).mono ?_; rintro e w4 ⟨rfl, rfl⟩)
                    | (go_at_call 22; refine (HL1.out _).mono ?_; rintro e w5 ⟨rfl, hf5⟩; have G3 := Lib.hid (G3.out.trans hf5); clear hf5)
                    | fail)
                all_goals
                  go_roundg (N - (n + 1))
                  case measure => have := Hn.out; omega
                  case rel => exact ⟨n + 1, size + 4, pl, by have := Hn.out; omega, by go_num, by go_num, Hm.out.fr G3.out (by simp), Hb.out.fr G3.out (by simp), Hf.out.trans G3.out, HX.out, H4.out.more, by have := HBig.out; omega, by have := Hpl.out; omega⟩
            · have hB : (rB || wB) = false := by simpa using hB
              have HX := Lib.hid ((HFin.out false hB.symm).2.2 rfl)
              clear HFin
              cases nB <;> cases lB <;> cases rB <;> cases wB <;> first
                | (exfalso; exact HLB.out ⟨rfl, rfl⟩)
                | (exfalso; cases hB; done)
                | skip
              all_goals
                clear hB
                go_wp2_with (first
                  | (go_at_call 19; refine (HR1.out _ HS0.out).mono ?_; rintro e w2 ⟨rfl, hf2⟩; have G2 := Lib.hid (hf2.alloc (.cells #[.int .i64 ro, .int .i64 ra, .int .i64 rb, .int .i64 rm] 55)); clear hf2)
                  | (go_at_call 20; refine (HW1.out _ (HS0.out.fr G2.out)).mono ?_; rintro e w3 ⟨hf3, v3, rfl⟩; have G3 := Lib.hid (G2.out.trans hf3); clear hf3)
                  | (go_at_call 21; refine (HC1.out _).mono ?_; rintro e w4 ⟨rfl, rfl⟩)
                  | (go_at_call 22; refine (HL1.out _).mono ?_; rintro e w5 ⟨rfl, hf5⟩; have G3 := Lib.hid (G3.out.trans hf5); clear hf5)
                  | fail)
              all_goals
                go_ret3
                refine ⟨?_, by with_reducible exact Hf.out.trans G3.out⟩
                rw [HR.out, asmK_no (HPR.out.trans HX.out)]
                rfl
      · have hnN : n = N := by omega
        subst hnN
        have hd : ls.drop n = [] := List.drop_of_length_le (by have := HN.out; omega)
        rw [hd] at hp
        have hPF : PR = .fine (size, pl) := hp.symm
        have HPF := Lib.hid hPF
        clear hp hd hm hb hf h4 hn hpl hlt hcn hPF
        have HRk : Hid (RS = told (pass2 (ls.map lineK) 0 [] pl)) := Lib.hid (by rw [HR.out, asmK_go (HPR.out.trans HPF.out)])
        go_wp2_with fail
        obtain ⟨W0, rfl⟩ : ∃ W, W = wr := ⟨_, rfl⟩
        have HBd := Lib.hid (Bld.made W0)
        have HFW : Hid (Fr [] W0 (W0.alloc (.cells #[.pointer none, .slice none 0 0] 66))) := Lib.hid ((Fr.refl [] W0).alloc _)
        generalize hP2 : pass2 (ls.map lineK) 0 [] pl = P2 at *
        go_loopg [97] n (fun gg i wr => ∃ (m : Nat) (out : List UInt8), m + gg = n ∧ i = .int .i64 (m : Int) ∧ Bld wr W0.heap.size out ∧ Fr [] W0 wr ∧ pass2 ((ls.drop m).map lineK) m out pl = P2 ∧ out.length % 4 = 0 ∧ out.length ≤ 4 * m)
        case atStart => exact ⟨0, [], by omega, rfl, HBd.out, HFW.out, hP2, rfl, Nat.le_refl _⟩
        case round =>
          obtain ⟨m, out, hm, rfl, hbd, hf, hp, ho4, hom⟩ := hrel
          have Hm2 := Lib.hid hm
          have Hbd := Lib.hid hbd
          have Hf2 := Lib.hid hf
          have Ho4 := Lib.hid ho4
          have Hom := Lib.hid hom
          clear hP2
          have hcn := HCn.out
          by_cases hlt : m < n
          · obtain ⟨l, hl⟩ : ∃ l, ls[m]? = some l := ⟨_, List.getElem?_eq_getElem (by have := HN.out; omega)⟩
            have hl8 := HLn.out l (List.mem_of_getElem? hl)
            have hb := Hb.out.fr hf (by simp)
            have hcell : wr.cell? ⟨w.heap.size, m, none⟩ = some (.string ⟨l.toArray⟩) := by
              rw [hb.cell m]
              unfold rowB
              rw [List.getElem?_toArray, List.getElem?_map, hl]
              rfl
            have hfz := hb.frozen m
            have hdr := drop_map lineK hl
            rw [hdr] at hp
            have hlt1 : (m : Int) < (n : Int) := by omega
            have hn0 : (0 : Int) ≤ (m : Int) := by omega
            have hN9 : n ≤ 32769 := by have := HN.out; omega
            have hwr : IntKind.i64.wrap ((m : Int) + 1) = (m : Int) + 1 := IntWalk.i64_in _ (by omega)
            have HS0 := Lib.hid ((HStd.out.fr Hf.out).fr hf)
            have HR1 := Lib.hid (HRd.out l hl8)
            have hBw : W0.heap.size ≤ wr.heap.size := hf.size
            have HBw := Lib.hid hBw
            have HW2 := Lib.hid (HWd.out l hl8)
            clear hBw
            cases hwk : wordK l with
            | some v =>
              obtain ⟨hk1, hk2⟩ := lineK_wrd hwk
              rw [hk1] at hp
              have HX : Hid (pass2 ((ls.drop (m + 1)).map lineK) (m + 1) (out ++ fourB v) pl = P2) := Lib.hid hp
              have HW1 : Hid (∀ W, Std W → Calls Tryz.prog 20 #[.string ⟨l.toArray⟩] W fun e w' => Fr [] W w' ∧ ∃ v' : Int, e = .returned (.tuple #[.int .i64 (v : Int), .bool true])) := Lib.hid (fun W hW => by
                refine (HW2.out W hW).mono ?_
                rintro e w' ⟨h1, v', rfl, h3⟩
                have h4 := h3 v hwk
                subst h4
                rw [hwk]
                exact ⟨h1, 0, rfl⟩)
              have HFo := Lib.hid (four_any v (by omega))
              clear hk1 hp hdr hl hwk HW2 hm hbd hf ho4 hom hb hcn
              go_wp2_with (first
                | (go_at_call 20; refine (HW1.out _ (HS0.out)).mono ?_; rintro e w3 ⟨hf3, v3, rfl⟩; have G3 := Lib.hid hf3; clear hf3)
                | (go_at_call 24; refine (HFo.out _).mono ?_; rintro e w5 ⟨rfl, hf5⟩; have G5 := Lib.hid (G3.out.trans hf5); clear hf5)
                | (go_at_call 23; refine (Write_any W0.heap.size out (fourB v) _ (Hbd.out.fr G5.out) (by rw [fourB_len]; have := Hom.out; omega) (by have := HBw.out; have := G5.out.size; omega)).mono ?_; rintro e w6 ⟨rfl, hbd6, hbe6⟩; have B6 := Lib.hid hbd6; have F6 := Lib.hid ((Hf2.out.trans G5.out).below_new hbe6); clear hbd6 hbe6)
                | fail)
              go_roundg (n - (m + 1))
              case measure => have := Hm2.out; omega
              case rel => exact ⟨m + 1, out ++ fourB v, by have := Hm2.out; omega, by go_num, B6.out, F6.out, HX.out, by rw [List.length_append, fourB_len]; have := Ho4.out; omega, by rw [List.length_append, fourB_len]; have := Hom.out; omega⟩
            | none =>
              have HW1 : Hid (∀ W, Std W → Calls Tryz.prog 20 #[.string ⟨l.toArray⟩] W fun e w' => Fr [] W w' ∧ ∃ v' : Int, e = .returned (.tuple #[.int .i64 v', .bool false])) := Lib.hid (fun W hW => by
                refine (HW2.out W hW).mono ?_
                rintro e w' ⟨h1, v', rfl, h3⟩
                rw [hwk]
                exact ⟨h1, v', rfl⟩)
              cases hrd : readG numP (fun _ => numP) true l with
              | none =>
                rw [lineK_rest hrd hwk] at hp
                have HX := Lib.hid hp
                have hrB := readV_none hrd
                generalize readV true l = RV at *
                obtain ⟨⟨ro, ra, rb, rm⟩, rl, rB⟩ := RV
                simp only at hrB
                subst hrB
                clear hp hdr hl hwk HW2 hm hbd hf ho4 hom hb hcn hrd
                go_wp2_with (first
                  | (go_at_call 20; refine (HW1.out _ (HS0.out)).mono ?_; rintro e w3 ⟨hf3, v3, rfl⟩; have G3 := Lib.hid hf3; clear hf3)
                  | (go_at_call 19; refine (HR1.out _ (HS0.out.fr G3.out)).mono ?_; rintro e w4 ⟨rfl, hf4⟩; have G4 := Lib.hid ((G3.out.trans hf4).alloc (.cells #[.int .i64 ro, .int .i64 ra, .int .i64 rb, .int .i64 rm] 55)); have B4 := Lib.hid (Blk.new w4 55 #[.int .i64 ro, .int .i64 ra, .int .i64 rb, .int .i64 rm]); clear hf4)
                  | fail)
                go_roundg (n - (m + 1))
                case measure => have := Hm2.out; omega
                case rel => exact ⟨m + 1, out, by have := Hm2.out; omega, by go_num, Hbd.out.fr G4.out, Hf2.out.trans G4.out, HX.out, Ho4.out, by have := Hom.out; omega⟩
              | some p =>
                obtain ⟨⟨ro, ra, rb, rm⟩, rl⟩ := p
                rw [lineK_ins hrd, pass2_ins] at hp
                rw [readV_some hrd] at HR1
                obtain ⟨k, hk30, hop, hok⟩ := ins_is hrd
                simp only at hop
                subst hop
                by_cases hrl : rl = []
                · rw [if_pos hrl] at hp
                  subst hrl
                  have HX := Lib.hid hp
                  have HE := Lib.hid (fun W => Encode_good ⟨k, ra, rb, rm⟩ k hk30 rfl hok W)
                  clear hp hdr hl hwk HW2 hm hbd hf ho4 hom hb hcn hrd hok
                  go_wp2_with (first
                    | (go_at_call 20; refine (HW1.out _ (HS0.out)).mono ?_; rintro e w3 ⟨hf3, v3, rfl⟩; have G3 := Lib.hid hf3; clear hf3)
                    | (go_at_call 19; refine (HR1.out _ (HS0.out.fr G3.out)).mono ?_; rintro e w4 ⟨rfl, hf4⟩; have G4 := Lib.hid ((G3.out.trans hf4).alloc (.cells #[.int .i64 (k : Int), .int .i64 ra, .int .i64 rb, .int .i64 rm] 55)); have B4 := Lib.hid (Blk.new w4 55 #[.int .i64 (k : Int), .int .i64 ra, .int .i64 rb, .int .i64 rm]); clear hf4; have c0 : (w4.alloc (.cells #[.int .i64 (k : Int), .int .i64 ra, .int .i64 rb, .int .i64 rm] 55)).cell? ⟨w4.heap.size, 0, none⟩ = some (.int .i64 (k : Int)) := B4.out.cell 0; have c1 : (w4.alloc (.cells #[.int .i64 (k : Int), .int .i64 ra, .int .i64 rb, .int .i64 rm] 55)).cell? ⟨w4.heap.size, 1, none⟩ = some (.int .i64 ra) := B4.out.cell 1; have c2 : (w4.alloc (.cells #[.int .i64 (k : Int), .int .i64 ra, .int .i64 rb, .int .i64 rm] 55)).cell? ⟨w4.heap.size, 2, none⟩ = some (.int .i64 rb) := B4.out.cell 2; have c3 : (w4.alloc (.cells #[.int .i64 (k : Int), .int .i64 ra, .int .i64 rb, .int .i64 rm] 55)).cell? ⟨w4.heap.size, 3, none⟩ = some (.int .i64 rm) := B4.out.cell 3)
                    | (go_at_call 27; refine (HE.out _).mono ?_; rintro e w5 ⟨rfl, hf5⟩; have G5 := Lib.hid (G4.out.trans hf5); clear hf5)
                    | (go_at_call 23; refine (Write_any W0.heap.size out (encL ⟨k, ra, rb, rm⟩) _ (Hbd.out.fr G5.out) (by rw [encL_len]; have := Hom.out; omega) (by have := HBw.out; have := G5.out.size; omega)).mono ?_; rintro e w6 ⟨rfl, hbd6, hbe6⟩; have B6 := Lib.hid hbd6; have F6 := Lib.hid ((Hf2.out.trans G5.out).below_new hbe6); clear hbd6 hbe6)
                    | fail)
                  go_roundg (n - (m + 1))
                  case measure => have := Hm2.out; omega
                  case rel => exact ⟨m + 1, out ++ encL ⟨k, ra, rb, rm⟩, by have := Hm2.out; omega, by go_num, B6.out, F6.out, HX.out, by rw [List.length_append, encL_len]; have := Ho4.out; omega, by rw [List.length_append, encL_len]; have := Hom.out; omega⟩
                · rw [if_neg hrl] at hp
                  have hE1 : rl.isEmpty = false := by cases rl with | nil => exact absurd rfl hrl | cons b r => rfl
                  have hE2 : (rl == []) = false := by cases rl with | nil => exact absurd rfl hrl | cons b r => rfl
                  have hE3 : (rl != []) = true := by cases rl with | nil => exact absurd rfl hrl | cons b r => rfl
                  have hRL : rl.length ≤ 12 := by
                    obtain ⟨k', -, -, -, -, ht⟩ := (readG_iff numP_ok).1 hrd
                    rcases ht with ht | ht
                    · exact absurd ht hrl
                    · exact (lab_len ht.2.1).1
                  have HRL := Lib.hid hRL
                  have hLen : ∀ W, Bld W W0.heap.size out → Calls Tryz.prog 25 #[.pointer (some ⟨W0.heap.size, 0, none⟩)] W fun e w' => e = .returned (.int .i64 (out.length : Int)) ∧ w' = W := fun W h => by
                    have h1 := Tryz.Builder_Len W0.heap.size W0.heap.size (Lib.byteCells out) W h
                    rw [Lib.byteCells_length] at h1
                    exact h1
                  have HLen := hLen
                  have ho5 : out.length ≤ 131076 := by omega
                  clear hRL hLen hrl hdr hl hwk HW2 hm hbd hf hom hb hcn hrd hok
                  cases hfd : findP pl rl with
                  | none =>
                    rw [hfd] at hp
                    have HX : Hid (P2 = .bad (m + 1) 93) := Lib.hid hp.symm
                    have HFd := Lib.hid hfd
                    have a1 : IntKind.i64.wrap (-(out.length : Int)) = -(out.length : Int) := IntWalk.i64_in _ (by omega)
                    have a2 : IntKind.i64.wrap (-(out.length : Int) - 4) = -(out.length : Int) - 4 := IntWalk.i64_in _ (by omega)
                    obtain ⟨y, hy⟩ : ∃ y, IntKind.i64.wrap (Int.tdiv (-(out.length : Int) - 4) 4) = y := ⟨_, rfl⟩
                    clear hp hfd ho5 ho4
                    go_wp2_with (first
                      | (go_at_call 20; refine (HW1.out _ (HS0.out)).mono ?_; rintro e w3 ⟨hf3, v3, rfl⟩; have G3 := Lib.hid hf3; clear hf3)
                      | (go_at_call 19; refine (HR1.out _ (HS0.out.fr G3.out)).mono ?_; rintro e w4 ⟨rfl, hf4⟩; have HZ4 := Lib.hid (G3.out.trans hf4); have G4 := Lib.hid ((G3.out.trans hf4).alloc (.cells #[.int .i64 (k : Int), .int .i64 ra, .int .i64 rb, .int .i64 rm] 55)); have B4 := Lib.hid (Blk.new w4 55 #[.int .i64 (k : Int), .int .i64 ra, .int .i64 rb, .int .i64 rm]); clear hf4; have c3 : (w4.alloc (.cells #[.int .i64 (k : Int), .int .i64 ra, .int .i64 rb, .int .i64 rm] 55)).cell? ⟨w4.heap.size, 3, none⟩ = some (.int .i64 rm) := B4.out.cell 3; have f4 := B4.out.frozen; have hlk : (Instr.lookup 53 (.map (some (w.heap.size + 1))) (.string ⟨rl.toArray⟩) true).run Tryz.prog (w4.alloc (.cells #[.int .i64 (k : Int), .int .i64 ra, .int .i64 rb, .int .i64 rm] 55)) = .ok (.tuple #[.int .i64 (0), .bool false]) (w4.alloc (.cells #[.int .i64 (k : Int), .int .i64 ra, .int .i64 rb, .int .i64 rm] 55)) := by (have h := PMap.look (Hm.out.fr (Hf2.out.trans G4.out) (by simp)) rl (by have := HRL.out; omega); rw [HFd.out] at h; exact h))
                      | (go_at_call 25; refine (HLen _ (Hbd.out.fr G4.out)).mono ?_; rintro e w5 ⟨rfl, rfl⟩; have B5 := Lib.hid (Blk.new w4 55 #[.int .i64 (k : Int), .int .i64 ra, .int .i64 rb, .int .i64 y]); have d0 : (w4.alloc (.cells #[.int .i64 (k : Int), .int .i64 ra, .int .i64 rb, .int .i64 y] 55)).cell? ⟨w4.heap.size, 0, none⟩ = some (.int .i64 (k : Int)) := B5.out.cell 0; have d1 : (w4.alloc (.cells #[.int .i64 (k : Int), .int .i64 ra, .int .i64 rb, .int .i64 y] 55)).cell? ⟨w4.heap.size, 1, none⟩ = some (.int .i64 ra) := B5.out.cell 1; have d2 : (w4.alloc (.cells #[.int .i64 (k : Int), .int .i64 ra, .int .i64 rb, .int .i64 y] 55)).cell? ⟨w4.heap.size, 2, none⟩ = some (.int .i64 rb) := B5.out.cell 2; have d3 : (w4.alloc (.cells #[.int .i64 (k : Int), .int .i64 ra, .int .i64 rb, .int .i64 y] 55)).cell? ⟨w4.heap.size, 3, none⟩ = some (.int .i64 y) := B5.out.cell 3; have G5 := Lib.hid (HZ4.out.alloc (.cells #[.int .i64 (k : Int), .int .i64 ra, .int .i64 rb, .int .i64 y] 55)))
                      | fail)
                    go_ret3
                    refine ⟨?_, Hf.out.trans (Hf2.out.trans G5.out)⟩
                    rw [HRk.out, HX.out]
                    rfl
                  | some at_ =>
                    rw [hfd] at hp
                    simp only [Int.toNat_natCast] at hp
                    have HFd := Lib.hid hfd
                    obtain ⟨hat4, hat⟩ := H4.out.2 rl at_ hfd
                    have hs4' := Hs4.out
                    have a1 : IntKind.i64.wrap ((at_ : Int) - (out.length : Int)) = (at_ : Int) - (out.length : Int) := IntWalk.i64_in _ (by omega)
                    have a2 : IntKind.i64.wrap ((at_ : Int) - (out.length : Int) - 4) = (at_ : Int) - (out.length : Int) - 4 := IntWalk.i64_in _ (by omega)
                    have hway := way_t hat4 ho4
                    have hwb : -9223372036854775808 ≤ way at_ out.length ∧ way at_ out.length ≤ 9223372036854775807 := by unfold way; omega
                    have a3 : IntKind.i64.wrap (Int.tdiv ((at_ : Int) - (out.length : Int) - 4) 4) = way at_ out.length := by rw [hway]; exact IntWalk.i64_in _ hwb
                    have HCk := Lib.hid (fun W => Check_in ⟨k, ra, rb, way at_ out.length⟩ k hk30 rfl W)
                    rw [okI_eq _ hk30] at HCk
                    have HE0 := fun (h : okL ⟨k, ra, rb, way at_ out.length⟩ k = true) W => Encode_good ⟨k, ra, rb, way at_ out.length⟩ k hk30 rfl h W
                    generalize way at_ out.length = y at *
                    clear hfd ho5 ho4 hway hwb hat hat4 hs4'
                    by_cases hok2 : okL ⟨k, ra, rb, y⟩ k = true
                    · rw [if_pos hok2] at hp
                      rw [if_pos hok2] at HCk
                      have HX := Lib.hid hp
                      have HE := Lib.hid (HE0 hok2)
                      clear HE0 hp hok2
                      go_wp2_with (first
                        | (go_at_call 20; refine (HW1.out _ (HS0.out)).mono ?_; rintro e w3 ⟨hf3, v3, rfl⟩; have G3 := Lib.hid hf3; clear hf3)
                        | (go_at_call 19; refine (HR1.out _ (HS0.out.fr G3.out)).mono ?_; rintro e w4 ⟨rfl, hf4⟩; have HZ4 := Lib.hid (G3.out.trans hf4); have G4 := Lib.hid ((G3.out.trans hf4).alloc (.cells #[.int .i64 (k : Int), .int .i64 ra, .int .i64 rb, .int .i64 rm] 55)); have B4 := Lib.hid (Blk.new w4 55 #[.int .i64 (k : Int), .int .i64 ra, .int .i64 rb, .int .i64 rm]); clear hf4; have c3 : (w4.alloc (.cells #[.int .i64 (k : Int), .int .i64 ra, .int .i64 rb, .int .i64 rm] 55)).cell? ⟨w4.heap.size, 3, none⟩ = some (.int .i64 rm) := B4.out.cell 3; have f4 := B4.out.frozen; have hlk : (Instr.lookup 53 (.map (some (w.heap.size + 1))) (.string ⟨rl.toArray⟩) true).run Tryz.prog (w4.alloc (.cells #[.int .i64 (k : Int), .int .i64 ra, .int .i64 rb, .int .i64 rm] 55)) = .ok (.tuple #[.int .i64 ((at_ : Int)), .bool true]) (w4.alloc (.cells #[.int .i64 (k : Int), .int .i64 ra, .int .i64 rb, .int .i64 rm] 55)) := by (have h := PMap.look (Hm.out.fr (Hf2.out.trans G4.out) (by simp)) rl (by have := HRL.out; omega); rw [HFd.out] at h; exact h))
                        | (go_at_call 25; refine (HLen _ (Hbd.out.fr G4.out)).mono ?_; rintro e w5 ⟨rfl, rfl⟩; have B5 := Lib.hid (Blk.new w4 55 #[.int .i64 (k : Int), .int .i64 ra, .int .i64 rb, .int .i64 y]); have d0 : (w4.alloc (.cells #[.int .i64 (k : Int), .int .i64 ra, .int .i64 rb, .int .i64 y] 55)).cell? ⟨w4.heap.size, 0, none⟩ = some (.int .i64 (k : Int)) := B5.out.cell 0; have d1 : (w4.alloc (.cells #[.int .i64 (k : Int), .int .i64 ra, .int .i64 rb, .int .i64 y] 55)).cell? ⟨w4.heap.size, 1, none⟩ = some (.int .i64 ra) := B5.out.cell 1; have d2 : (w4.alloc (.cells #[.int .i64 (k : Int), .int .i64 ra, .int .i64 rb, .int .i64 y] 55)).cell? ⟨w4.heap.size, 2, none⟩ = some (.int .i64 rb) := B5.out.cell 2; have d3 : (w4.alloc (.cells #[.int .i64 (k : Int), .int .i64 ra, .int .i64 rb, .int .i64 y] 55)).cell? ⟨w4.heap.size, 3, none⟩ = some (.int .i64 y) := B5.out.cell 3; have G5 := Lib.hid (HZ4.out.alloc (.cells #[.int .i64 (k : Int), .int .i64 ra, .int .i64 rb, .int .i64 y] 55)))
                        | (go_at_call 26; refine (HCk.out _).mono ?_; rintro e w7 ⟨rfl, hf7⟩; have B7 := Lib.hid (B5.out.fr hf7 (by simp)); have e0 : w7.cell? ⟨w4.heap.size, 0, none⟩ = some (.int .i64 (k : Int)) := B7.out.cell 0; have e1 : w7.cell? ⟨w4.heap.size, 1, none⟩ = some (.int .i64 ra) := B7.out.cell 1; have e2 : w7.cell? ⟨w4.heap.size, 2, none⟩ = some (.int .i64 rb) := B7.out.cell 2; have e3 : w7.cell? ⟨w4.heap.size, 3, none⟩ = some (.int .i64 y) := B7.out.cell 3; have G7 := Lib.hid (G5.out.trans hf7); clear hf7)
                        | (go_at_call 27; refine (HE.out _).mono ?_; rintro e w8 ⟨rfl, hf8⟩; have G8 := Lib.hid (G7.out.trans hf8); clear hf8)
                        | (go_at_call 23; refine (Write_any W0.heap.size out (encL ⟨k, ra, rb, y⟩) _ (Hbd.out.fr G8.out) (by rw [encL_len]; have := Hom.out; have := Hm2.out; omega) (by have := HBw.out; have := G8.out.size; omega)).mono ?_; rintro e w6 ⟨rfl, hbd6, hbe6⟩; have B6 := Lib.hid hbd6; have F6 := Lib.hid ((Hf2.out.trans G8.out).below_new hbe6); clear hbd6 hbe6)
                        | fail)
                      go_roundg (n - (m + 1))
                      case measure => have := Hm2.out; omega
                      case rel => exact ⟨m + 1, out ++ encL ⟨k, ra, rb, y⟩, by have := Hm2.out; omega, by go_num, B6.out, F6.out, HX.out, by rw [List.length_append, encL_len]; have := Ho4.out; omega, by rw [List.length_append, encL_len]; have := Hom.out; omega⟩
                    · rw [if_neg hok2] at hp
                      rw [if_neg hok2] at HCk
                      have HX : Hid (P2 = .bad (m + 1) 93) := Lib.hid hp.symm
                      clear HE0 hp hok2
                      go_wp2_with (first
                        | (go_at_call 20; refine (HW1.out _ (HS0.out)).mono ?_; rintro e w3 ⟨hf3, v3, rfl⟩; have G3 := Lib.hid hf3; clear hf3)
                        | (go_at_call 19; refine (HR1.out _ (HS0.out.fr G3.out)).mono ?_; rintro e w4 ⟨rfl, hf4⟩; have HZ4 := Lib.hid (G3.out.trans hf4); have G4 := Lib.hid ((G3.out.trans hf4).alloc (.cells #[.int .i64 (k : Int), .int .i64 ra, .int .i64 rb, .int .i64 rm] 55)); have B4 := Lib.hid (Blk.new w4 55 #[.int .i64 (k : Int), .int .i64 ra, .int .i64 rb, .int .i64 rm]); clear hf4; have c3 : (w4.alloc (.cells #[.int .i64 (k : Int), .int .i64 ra, .int .i64 rb, .int .i64 rm] 55)).cell? ⟨w4.heap.size, 3, none⟩ = some (.int .i64 rm) := B4.out.cell 3; have f4 := B4.out.frozen; have hlk : (Instr.lookup 53 (.map (some (w.heap.size + 1))) (.string ⟨rl.toArray⟩) true).run Tryz.prog (w4.alloc (.cells #[.int .i64 (k : Int), .int .i64 ra, .int .i64 rb, .int .i64 rm] 55)) = .ok (.tuple #[.int .i64 ((at_ : Int)), .bool true]) (w4.alloc (.cells #[.int .i64 (k : Int), .int .i64 ra, .int .i64 rb, .int .i64 rm] 55)) := by (have h := PMap.look (Hm.out.fr (Hf2.out.trans G4.out) (by simp)) rl (by have := HRL.out; omega); rw [HFd.out] at h; exact h))
                        | (go_at_call 25; refine (HLen _ (Hbd.out.fr G4.out)).mono ?_; rintro e w5 ⟨rfl, rfl⟩; have B5 := Lib.hid (Blk.new w4 55 #[.int .i64 (k : Int), .int .i64 ra, .int .i64 rb, .int .i64 y]); have d0 : (w4.alloc (.cells #[.int .i64 (k : Int), .int .i64 ra, .int .i64 rb, .int .i64 y] 55)).cell? ⟨w4.heap.size, 0, none⟩ = some (.int .i64 (k : Int)) := B5.out.cell 0; have d1 : (w4.alloc (.cells #[.int .i64 (k : Int), .int .i64 ra, .int .i64 rb, .int .i64 y] 55)).cell? ⟨w4.heap.size, 1, none⟩ = some (.int .i64 ra) := B5.out.cell 1; have d2 : (w4.alloc (.cells #[.int .i64 (k : Int), .int .i64 ra, .int .i64 rb, .int .i64 y] 55)).cell? ⟨w4.heap.size, 2, none⟩ = some (.int .i64 rb) := B5.out.cell 2; have d3 : (w4.alloc (.cells #[.int .i64 (k : Int), .int .i64 ra, .int .i64 rb, .int .i64 y] 55)).cell? ⟨w4.heap.size, 3, none⟩ = some (.int .i64 y) := B5.out.cell 3; have G5 := Lib.hid (HZ4.out.alloc (.cells #[.int .i64 (k : Int), .int .i64 ra, .int .i64 rb, .int .i64 y] 55)))
                        | (go_at_call 26; refine (HCk.out _).mono ?_; rintro e w7 ⟨rfl, hf7⟩; have B7 := Lib.hid (B5.out.fr hf7 (by simp)); have e0 : w7.cell? ⟨w4.heap.size, 0, none⟩ = some (.int .i64 (k : Int)) := B7.out.cell 0; have e1 : w7.cell? ⟨w4.heap.size, 1, none⟩ = some (.int .i64 ra) := B7.out.cell 1; have e2 : w7.cell? ⟨w4.heap.size, 2, none⟩ = some (.int .i64 rb) := B7.out.cell 2; have e3 : w7.cell? ⟨w4.heap.size, 3, none⟩ = some (.int .i64 y) := B7.out.cell 3; have G7 := Lib.hid (G5.out.trans hf7); clear hf7)
                        | fail)
                      go_ret3
                      refine ⟨?_, Hf.out.trans (Hf2.out.trans G7.out)⟩
                      rw [HRk.out, HX.out]
                      rfl
          · have hmn : m = n := by omega
            subst hmn
            have hd : ls.drop m = [] := List.drop_of_length_le (by have := HN.out; omega)
            rw [hd] at hp
            have HX : Hid (P2 = .fine out) := Lib.hid hp.symm
            clear hp hd hm hbd hf ho4 hom hlt hcn
            have hBw : W0.heap.size ≤ wr.heap.size := Hf2.out.size
            go_wp2_with (first
              | (go_at_call 28; refine (Tryz.Builder_String_any W0.heap.size W0.heap.size out _ Hbd.out hBw).mono ?_; rintro e w5 ⟨rfl, hbe⟩; have F6 := Lib.hid (Hf2.out.below_new hbe); clear hbe)
              | fail)
            go_ret3
            refine ⟨?_, Hf.out.trans F6.out⟩
            rw [HRk.out, HX.out]
            rfl
end Go.Proofs.YtbmaecdlkchkeaaGreatDoor

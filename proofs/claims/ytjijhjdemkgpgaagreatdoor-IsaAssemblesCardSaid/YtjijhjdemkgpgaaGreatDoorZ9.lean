/- The document's words. -/
import Derived.Test.YtjijhjdemkgpgaaGreatDoorZ8
import Derived.Deep.DeepCutAuto
import Derived.Deep.AppendLies
namespace Go.Proofs.YtjijhjdemkgpgaaGreatDoor
open Go.RowKit
set_option linter.unusedVariables false
set_option linter.unusedSimpArgs false
set_option maxRecDepth 100000
abbrev sW (ws : List (List UInt8)) : List Value := ws.map fun x => Value.string ⟨x.toArray⟩
theorem sW_snoc (ws : List (List UInt8)) (x : List UInt8) : sW (ws ++ [x]) = sW ws ++ [.string ⟨x.toArray⟩] := by
  unfold sW
  rw [List.map_append]
  rfl
/-- The words cut so far: from f, at i. -/
def WInv (L : List UInt8) (i f : Nat) (ws : List (List UInt8)) : Prop := i ≤ L.length ∧ f ≤ i ∧ splitC 32 L = ws ++ splitC 32 (L.drop f) ∧ (32 : UInt8) ∉ (L.drop f).take (i - f)
theorem winv_end {L : List UInt8} {f : Nat} {ws : List (List UInt8)} (h : WInv L L.length f ws) : splitC 32 L = ws ++ [L.drop f] := by
  obtain ⟨-, h1, h2, h3⟩ := h
  rw [List.take_of_length_le (by rw [List.length_drop]; omega)] at h3
  rw [h2, splitC_none h3]
theorem winv_cut {L : List UInt8} {i f : Nat} {ws : List (List UInt8)} (h : WInv L i f ws) (hi : L[i]? = some 32) : WInv L (i + 1) (i + 1) (ws ++ [(L.drop f).take (i - f)]) := by
  obtain ⟨-, h1, h2, h3⟩ := h
  have hl : i < L.length := (List.getElem?_eq_some_iff.1 hi).1
  have e : L.drop f = (L.drop f).take (i - f) ++ (32 :: L.drop (i + 1)) := by
    have e1 : (L.drop f).drop (i - f) = L.drop i := by rw [List.drop_drop]; congr 1; omega
    have e2 : L.drop i = 32 :: L.drop (i + 1) := by
      rw [List.drop_eq_getElem_cons hl]
      have := (List.getElem?_eq_some_iff.1 hi).2
      rw [this]
    conv => lhs; rw [← List.take_append_drop (i - f) (L.drop f), e1, e2]
  refine ⟨hl, Nat.le_refl _, ?_, by simp⟩
  have e3 : splitC 32 (L.drop f) = (L.drop f).take (i - f) :: splitC 32 (L.drop (i + 1)) := by
    conv => lhs; rw [e]
    exact splitC_app h3
  rw [h2, e3, List.append_assoc]
  rfl
theorem winv_go {L : List UInt8} {i f : Nat} {ws : List (List UInt8)} {d : UInt8} (h : WInv L i f ws) (hi : L[i]? = some d) (hd : d ≠ 32) : WInv L (i + 1) f ws := by
  obtain ⟨-, h1, h2, h3⟩ := h
  have hl : i < L.length := (List.getElem?_eq_some_iff.1 hi).1
  refine ⟨hl, by omega, h2, ?_⟩
  rw [show i + 1 - f = (i - f) + 1 by omega, List.take_add_one, List.getElem?_drop, show f + (i - f) = i by omega, hi]
  intro hm
  rcases List.mem_append.1 hm with hm | hm
  · exact h3 hm
  · simp at hm
    exact hd hm.symm
theorem splitC_lenle (L : List UInt8) : (splitC 32 L).length ≤ L.length + 1 := by
  induction L with
  | nil => simp [splitC]
  | cons b r ih =>
    unfold splitC
    by_cases hb : b = 32
    · rw [if_pos hb]
      simp only [List.length_cons]
      omega
    · rw [if_neg hb]
      cases hs : splitC 32 r with
      | nil => simp
      | cons h t =>
        rw [hs] at ih
        simp only [List.length_cons] at ih ⊢
        omega
set_option maxHeartbeats 8000000 in
theorem rWords_any (s : ByteArray) (hs : s.size ≤ 4294967280) (w : World) : Calls Tryz.prog 50 #[.string s] w fun e w' => ∃ v, e = .returned v ∧ w'.ownsRow w.heap.size 9 1 v (splitC 32 s.data.toList).length (sW (splitC 32 s.data.toList)) ∧ v ≠ .slice none 0 0 ∧ Fr [] w w' := by
  obtain ⟨j0, hj0, hy0, hy1, hy2⟩ : ∃ i, Tryz.prog.info? 9 = some i ∧ i.zero = some (.string ⟨#[]⟩) ∧ i.size = 1 ∧ i.bytes = 16 := ⟨_, rfl, rfl, rfl, rfl⟩
  have hsz : s.data.toList.length = s.size := rfl
  have HSz := Lib.hid hsz
  have HS := Lib.hid hs
  have HO0 : Hid ((w.alloc (.cells #[] 9)).ownsRow w.heap.size 9 1 (.slice (some ⟨w.heap.size, 0, none⟩) 0 0) 0 []) := Lib.hid (World.ownsRow_made w #[] 0 (Nat.le_refl _) (Nat.zero_le _) (by simp))
  have HF0 : Hid (Fr [] w (w.alloc (.cells #[] 9))) := Lib.hid ((Fr.refl [] w).alloc _)
  have HW0 : Hid (WInv s.data.toList 0 0 []) := Lib.hid ⟨Nat.zero_le _, Nat.le_refl _, rfl, by simp⟩
  have HLe := Lib.hid (splitC_lenle s.data.toList)
  have HB : Hid (∀ (i : Nat) (d : UInt8), s.data.toList[i]? = some d → ∀ h, (s[i]'h).toNat = d.toNat) := Lib.hid (fun i d h => bget (S := s) rfl h)
  have HX : Hid (∀ f i : Nat, s.extract f i = ⟨((s.data.toList.drop f).take (i - f)).toArray⟩) := Lib.hid (fun f i => bext (by rw [Lib.extract_data]))
  obtain ⟨L, hL⟩ : ∃ L, L = s.data.toList := ⟨_, rfl⟩
  rw [← hL] at HSz HW0 HLe HB HX ⊢
  clear hs hsz hL
  go_enter Tryz.func50, Tryz.ntmps50
  go_wp2_with fail
  go_loopg [3, 4, 5] (s.size + 1) (fun gg v3 v4 v5 wr => ∃ (i f : Nat) (ws : List (List UInt8)), i + gg = s.size + 1 ∧ v5 = .int .i64 (i : Int) ∧ v4 = .int .i64 (f : Int) ∧ wr.ownsRow w.heap.size 9 1 v3 ws.length (sW ws) ∧ v3 ≠ .slice none 0 0 ∧ ((i ≤ s.size ∧ WInv L i f ws ∧ ws.length ≤ f) ∨ (i = s.size + 1 ∧ ws = splitC 32 L)) ∧ Fr [] w wr)
  case atStart => exact ⟨0, 0, [], by omega, rfl, rfl, HO0.out, by simp, .inl ⟨Nat.zero_le _, HW0.out, Nat.le_refl _⟩, HF0.out⟩
  case round =>
    obtain ⟨i, f, ws, hi, rfl, rfl, hown, hne, hst, hf⟩ := hrel
    have Hi := Lib.hid hi
    have HOw := Lib.hid hown
    have HNe := Lib.hid hne
    have Hf := Lib.hid hf
    rcases hst with ⟨hle, hwi, hwl⟩ | ⟨hie, hws⟩
    · have HWi := Lib.hid hwi
      have HWl := Lib.hid hwl
      have hle1 : (i : Int) ≤ (s.size : Int) := by omega
      have hi0 : (0 : Int) ≤ (i : Int) := by omega
      have hf0 : (0 : Int) ≤ (f : Int) := by omega
      have hfi : f ≤ i := hwi.2.1
      have hfi1 : (f : Int) ≤ (i : Int) := by omega
      have hwk : IntKind.i64.wrap ((i : Int) + 1) = (i : Int) + 1 := IntWalk.i64_in _ (by have := HS.out; omega)
      have hext := HX.out f i
      obtain ⟨RW, hRW⟩ : ∃ RW : ByteArray, RW = ⟨((L.drop f).take (i - f)).toArray⟩ := ⟨_, rfl⟩
      rw [← hRW] at hext
      have HRW := Lib.hid hRW
      have hm1 : ws.length + 1 ≤ maxLen := by have := HS.out; simp only [maxLen]; omega
      have hm2 : (ws.length + 1) * 16 ≤ 140737488355328 := by have := HS.out; omega
      have HO3 := Lib.hid (own_fr hown ((Fr.refl [] wr).alloc (.cells #[.string RW] 9)) (by simp))
      have HNw := Lib.hid (World.news_of_block (Blk.new wr 9 #[.string RW]))
      have HB9 : Hid (w.heap.size ≤ (wr.alloc (.cells #[.string RW] 9)).heap.size) := Lib.hid (by have := hf.size; simp; omega)
      by_cases hlt : i < s.size
      · obtain ⟨d, hd⟩ : ∃ d, L[i]? = some d := ⟨_, List.getElem?_eq_getElem (by have := HSz.out; omega)⟩
        have hdc := HB.out i d hd
        have hlt1 : (i : Int) < (s.size : Int) := by omega
        have hne1 : ((i : Int) == (s.size : Int)) = false := beq_eq_false_iff_ne.2 (by omega)
        by_cases h32 : d = 32
        · subst h32
          have HWn := Lib.hid (winv_cut hwi hd)
          clear hi hown hne hwi hwl hf hd hRW hle
          go_wp2_with (first
            | (at_builtin; go_must (refine wpList_append_own _ rfl _ _ 51 rfl w.heap.size 9 j0 (.string ⟨#[]⟩) 1 16 Tryz.underlying51 hj0 hy0 hy1 hy2 rfl (Nat.succ_pos 0) _ ws.length (sW ws) rfl HO3.out ⟨wr.heap.size, 0, none⟩ 1 1 [.string RW] rfl rfl HNw.out (by simp [Value.oneCell']) hm1 hm2 HB9.out ?_; intro v3 w3 ho3 hg3 hn3; have HO4 := Lib.hid ho3; have HN4 := Lib.hid hn3; have HF4 := Lib.hid ((Hf.out.alloc _).own HO3.out hg3); clear ho3 hg3 hn3))
            | fail)
          go_roundg (s.size + 1 - (i + 1))
          case measure => have := Hi.out; omega
          case rel => exact ⟨i + 1, i + 1, ws ++ [(L.drop f).take (i - f)], by omega, by go_num, by go_num, by rw [sW_snoc, ← HRW.out, List.length_append]; exact HO4.out, fun e => by have := HN4.out.1 e; exact absurd this.2 (by decide), .inl ⟨by omega, HWn.out, by rw [List.length_append]; have := HWl.out; simp only [List.length_cons, List.length_nil]; omega⟩, HF4.out⟩
        · have HWn := Lib.hid (winv_go hwi hd h32)
          have hq : ((d.toNat : Int) == 32) = false := by
            rw [beq_eq_false_iff_ne]
            intro e
            apply h32
            apply UInt8.toNat_inj.1
            show d.toNat = 32
            omega
          clear hi hown hne hwi hwl hf hd hRW hle h32
          go_wp2_with fail
          go_roundg (s.size + 1 - (i + 1))
          case measure => have := Hi.out; omega
          case rel => exact ⟨i + 1, f, ws, by omega, by go_num, rfl, HOw.out, HNe.out, .inl ⟨by omega, HWn.out, HWl.out⟩, Hf.out⟩
      · obtain rfl : i = s.size := by omega
        have hsl := HSz.out
        have HWn : Hid (splitC 32 L = ws ++ [(L.drop f).take (s.size - f)]) := Lib.hid (by
          rw [winv_end (by rw [hsl]; exact hwi), List.take_of_length_le (by rw [List.length_drop]; omega)])
        have hne1 : ((s.size : Int) == (s.size : Int)) = true := by simp
        clear hi hown hne hwi hwl hf hRW hle hlt hsl
        go_wp2_with (first
          | (at_builtin; go_must (refine wpList_append_own _ rfl _ _ 51 rfl w.heap.size 9 j0 (.string ⟨#[]⟩) 1 16 Tryz.underlying51 hj0 hy0 hy1 hy2 rfl (Nat.succ_pos 0) _ ws.length (sW ws) rfl HO3.out ⟨wr.heap.size, 0, none⟩ 1 1 [.string RW] rfl rfl HNw.out (by simp [Value.oneCell']) hm1 hm2 HB9.out ?_; intro v3 w3 ho3 hg3 hn3; have HO4 := Lib.hid ho3; have HN4 := Lib.hid hn3; have HF4 := Lib.hid ((Hf.out.alloc _).own HO3.out hg3); clear ho3 hg3 hn3))
          | fail)
        go_roundg (s.size + 1 - (s.size + 1))
        case measure => have := Hi.out; omega
        case rel => exact ⟨s.size + 1, s.size + 1, ws ++ [(L.drop f).take (s.size - f)], by omega, by go_num, by go_num, by rw [sW_snoc, ← HRW.out, List.length_append]; exact HO4.out, fun e => by have := HN4.out.1 e; exact absurd this.2 (by decide), .inr ⟨rfl, HWn.out.symm⟩, HF4.out⟩
    · subst hws
      have hgt : ¬ (i : Int) ≤ (s.size : Int) := by omega
      clear hi hown hne hf hie
      go_wp2_with fail
      go_ret
      exact ⟨_, rfl, HOw.out, HNe.out, Hf.out⟩
end Go.Proofs.YtjijhjdemkgpgaaGreatDoor

/- lines, of the laws. -/
import Derived.Test.YtjijhjdemkgpgaaDoorStr
import Derived.Test.YtjijhjdemkgpgaaDoorLib2
import Derived.Lib.AppendStr
namespace Go.Proofs.YtjijhjdemkgpgaaDoor
open Go.RowKit
set_option linter.unusedVariables false
set_option linter.unusedSimpArgs false
set_option maxRecDepth 100000
def nopC : Nat → List UInt8
  | 0 => []
  | k + 1 => nopC k ++ [110, 111, 112, 10]
theorem nopC_len : ∀ k, (nopC k).length = 4 * k
  | 0 => rfl
  | k + 1 => by
    rw [nopC, List.length_append, nopC_len k]
    simp
    omega
def bC (l : List UInt8) : List Value := l.map fun b => Value.int .u8 b.toNat
theorem own_made5 {W W' : World} (B : Nat) (hB : B ≤ W.heap.size) (h : W' = W.alloc (.cells #[] 5)) : W'.ownsRow B 5 1 (.slice (some ⟨W.heap.size, 0, none⟩) 0 0) 0 [] := by
  rw [h]
  exact World.ownsRow_made W #[] 0 hB (Nat.zero_le _) (by simp)
theorem own_form {w : World} {B e n : Nat} {v : Value} {xs : List Value} (h : w.ownsRow B e 1 v n xs) (hv : v ≠ .slice none 0 0) : ∃ g cap, v = .slice (some ⟨g, 0, none⟩) n cap ∧ ∀ j u, xs[j]? = some u → w.cell? ((⟨g, 0, none⟩ : Addr).add j) = some u := by
  have h0 := h
  rcases h.2 with ⟨rfl, -⟩ | ⟨g, cap, cur, rfl, -⟩
  · exact absurd rfl hv
  · exact ⟨g, cap, rfl, h0.cells rfl⟩
set_option maxHeartbeats 4000000 in
theorem lines_any (n : Nat) (hn : n ≤ 1000000) (w : World) : Calls Tryd.prog 17 #[.int .i64 (n : Int)] w fun e w' => e = .returned (.string ⟨(nopC n).toArray⟩) ∧ Fr [] w w' := by
  obtain ⟨i0, hi0, hz0, hz1, hz2⟩ : ∃ i, Tryd.prog.info? 5 = some i ∧ i.zero = some (.int .u8 0) ∧ i.size = 1 ∧ i.bytes = 1 := ⟨_, rfl, rfl, rfl, rfl⟩
  have HO := Lib.hid (own_made5 (W := w) w.heap.size (Nat.le_refl _) rfl)
  have H0 := Lib.hid (fun o => (Fr.refl [] w).alloc o)
  have HN := Lib.hid hn
  clear hn
  go_enter Tryd.func17, Tryd.ntmps17
  go_wp2_with fail
  go_loopg [3, 4] n (fun gg v3 v4 wr => ∃ k : Nat, k + gg = n ∧ v4 = .int .i64 (k : Int) ∧ wr.ownsRow w.heap.size 5 1 v3 (4 * k) (bC (nopC k)) ∧ v3 ≠ .slice none 0 0 ∧ Fr [] w wr)
  case atStart => exact ⟨0, by omega, rfl, HO.out, by simp, H0.out _⟩
  case round =>
    obtain ⟨k, hk, rfl, hown, hne, hf⟩ := hrel
    have Hk := Lib.hid hk
    have Hf := Lib.hid hf
    have HOw := Lib.hid hown
    have HNe := Lib.hid hne
    by_cases hlt : k < n
    · have hlt1 : (k : Int) < (n : Int) := by omega
      have hwk : IntKind.i64.wrap ((k : Int) + 1) = (k : Int) + 1 := IntWalk.i64_in _ (by have := HN.out; omega)
      clear hk hf hown hne
      go_wp2_with (first
        | (at_builtin; go_must (refine Lib.wpList_append_own_string wr rfl (.tmp 11) (.const (.string ⟨#[110, 111, 112, 10]⟩)) 37 9 rfl w.heap.size 5 i0 Tryd.underlying37 Tryd.underlying9 hi0 hz0 hz1 hz2 _ (4 * k) (bC (nopC k)) rfl HOw.out _ rfl ?_ ?_ Hf.out.size ?_))
        | fail)
      · have := HN.out
        show 4 * k + 4 ≤ maxLen
        simp only [maxLen]
        omega
      · have := HN.out
        show 4 * k + 4 ≤ _
        omega
      · intro v' w' h1 h2 h3
        have hx : bC (nopC k) ++ Lib.strCells ⟨#[110, 111, 112, 10]⟩ = bC (nopC (k + 1)) := by
          show _ = bC (nopC k ++ [110, 111, 112, 10])
          unfold bC Lib.strCells
          rw [List.map_append]
        rw [hx] at h1
        have HX1 := Lib.hid (show w'.ownsRow w.heap.size 5 1 v' (4 * (k + 1)) (bC (nopC (k + 1))) from h1)
        have HX3 := Lib.hid h3
        have HXF := Lib.hid (Hf.out.own HOw.out h2)
        clear h1 h2 h3 hx
        go_wp2_with fail
        go_roundg (n - (k + 1))
        case measure => have := Hk.out; omega
        case rel => exact ⟨k + 1, by have := Hk.out; omega, by go_num, HX1.out, HX3.out, HXF.out⟩
    · have hlt1 : ¬ (k : Int) < (n : Int) := by omega
      obtain rfl : k = n := by omega
      obtain ⟨g, cap, rfl, hc⟩ := own_form hown hne
      have HR := Lib.hid (run_convert_bytes_back (P := Tryd.prog) wr 37 9 5 ⟨g, 0, none⟩ cap (nopC k) Tryd.underlying37 Tryd.underlying5 Tryd.underlying9 (fun j hj => hc j _ (by unfold bC; rw [List.getElem?_map, List.getElem?_eq_getElem hj]; rfl)))
      rw [nopC_len] at HR
      have hR := HR.out
      clear hk hf hown hne hc
      go_wp2_with fail
      go_ret
      exact ⟨rfl, Hf.out⟩
end Go.Proofs.YtjijhjdemkgpgaaDoor

/- Decode's word tied to the plain one. -/
import Derived.Test.YtjijhjdemkgpgaaGreatDoorI3
import Derived.Test.YtjijhjdemkgpgaaGreatDoorI4
namespace Go.Proofs.YtjijhjdemkgpgaaGreatDoor
open Go.RowKit
set_option linter.unusedVariables false
set_option linter.unusedSimpArgs false
theorem mk_tie (x : W4) (hk : x.a.toNat < 30) : mkI x.a.toNat x.b.toNat x.c.toNat x.d.toNat = mkL x := by
  obtain ⟨-, -, h3, -⟩ := form_has x.a.toNat hk
  unfold mkI mkL imB
  rw [h3]
  rfl
theorem dec_tie (x : W4) : decI ⟨x.l.toArray⟩ = match decL x with | some i => (i, 0) | none => (In0, 91) := by
  have h : decI ⟨x.l.toArray⟩ = decB x.a.toNat x.b.toNat x.c.toNat x.d.toNat := rfl
  rw [h]
  unfold decB decL
  by_cases hk : x.a.toNat < 30
  · rw [mk_tie x hk, okI_eq _ hk]
    by_cases ho : okL (mkL x) x.a.toNat = true
    · rw [if_pos ⟨hk, ho⟩, if_pos ⟨hk, ho⟩]
    · rw [if_neg (fun e => ho e.2), if_neg (fun e => ho e.2)]
  · rw [if_neg (fun e => hk e.1), if_neg (fun e => hk e.1)]
end Go.Proofs.YtjijhjdemkgpgaaGreatDoor

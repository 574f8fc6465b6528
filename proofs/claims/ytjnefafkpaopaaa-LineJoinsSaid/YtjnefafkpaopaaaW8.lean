/- Line: Turn, of the program. -/
import Derived.Test.YtjnefafkpaopaaaW7
import Derived.Laws.Entries
namespace Go.Proofs.Ytjnefafkpaopaaa
open Go.RowKit
set_option linter.unusedVariables false
set_option linter.unusedSimpArgs false
theorem st_complex (P : Program) (w : World) (a : Addr) (m : Mode) (k : FloatKind) (x y : Nat) : (store a (.complex k x y) m).run P w = stored P w a (.complex k x y) m := run_store P w a _ m rfl
theorem un_neg (k : FloatKind) (b : Nat) : Op.unary .neg (.float k b) = pure (.float k (Op.negFloat k b)) := rfl
attribute [local go_sem] st_complex un_neg

def ng (b : Nat) : Nat := Op.negFloat .f64 b
/-- A point turned by r quarters. -/
def rot (r : Nat) (p : Nat × Nat) : Nat × Nat :=
  match r with
  | 1 => (ng p.2, p.1)
  | 2 => (ng p.1, ng p.2)
  | 3 => (p.2, ng p.1)
  | _ => p
structure TurnI (w : World) (l : List (Nat × Nat)) (r g k : Nat) (W : World) : Prop where
  blk : ∃ cs, Blk W g 27 cs ∧ ∀ (j : Nat) (p : Nat × Nat), l[j]? = some p → cs[j]? = some (if j < k then .complex .f64 (rot r p).1 (rot r p).2 else .complex .f64 p.1 p.2)
  fr : Fr [] w W
  ge : w.heap.size ≤ g
theorem TurnI.step {w W : World} {l : List (Nat × Nat)} {r g k : Nat} {p : Nat × Nat} (h : TurnI w l r g k W) (hp : l[k]? = some p) : TurnI w l r g (k + 1) (W.setCell ⟨g, k, none⟩ (.complex .f64 (rot r p).1 (rot r p).2)) := by
  obtain ⟨⟨cs, hb, hc⟩, hf, hg⟩ := h
  refine ⟨⟨_, hb.set_ k _, fun j q hq => ?_⟩, hf.setCell (.inr hg) _, hg⟩
  have h1 := hc j q hq
  by_cases hj : k = j
  · subst hj
    rw [hp] at hq
    injection hq with hq
    subst hq
    rw [Array.getElem?_setIfInBounds_self_of_lt (Array.getElem?_eq_some_iff.1 h1).1, if_pos (by omega)]
  · rw [Array.getElem?_setIfInBounds_ne hj, h1]
    by_cases hjk : j < k
    · rw [if_pos hjk, if_pos (by omega)]
    · rw [if_neg hjk, if_neg (by omega)]
def TurnP (w : World) (l : List (Nat × Nat)) (r n : Nat) (e : Ending) (w' : World) : Prop := ∃ g cap, e = .returned (.slice (some ⟨g, 0, none⟩) n cap) ∧ TurnI w l r g n w' ∧ n ≤ cap ∧ cap ≤ maxLen

set_option maxRecDepth 100000 in
set_option maxHeartbeats 1000000 in
theorem Turn_0 (l : List (Nat × Nat)) (g o cap n : Nat) (k : Int) (w : World) (h : Sl w 27 1 (.slice (some ⟨g, o, none⟩) n cap) n (enc l)) (hn : n ≤ 4096) (r : Nat) (hr : bits .and .i64 k 3 = r) (hr4 : r = 0 ∨ r = 3) :
    Calls Try.prog 14 #[.slice (some ⟨g, o, none⟩) n cap, .int .i64 k] w (TurnP w l r n) := by
  have Hl := Lib.hid (show l.length = n by have := h.1; rw [enc_len] at this; omega)
  have HC := Lib.hid (cclone_any l g o cap n w h hn)
  clear h
  go_enter Try.func14, Try.ntmps14
  go_wp2_with fail
  refine HC.out.mono ?_
  rintro e w1 ⟨g1, cap1, cs1, rfl, hb1, hc1, hf1, hg1, hcp⟩
  have HCP := Lib.hid hcp
  clear hcp
  have HI0 : Hid (TurnI w l r g1 0 w1) := Lib.hid ⟨⟨cs1, hb1, fun j p hp => by rw [if_neg (by omega)]; exact hc1 _ _ (enc_at hp)⟩, hf1, hg1⟩
  clear hb1 hc1 hf1 hg1
  go_wp2_with fail
  go_loopg [13] n (fun gg i wr => ∃ k' : Nat, k' + gg = n ∧ i = .int .i64 k' ∧ TurnI w l r g1 k' wr)
  case atStart => exact ⟨0, by omega, rfl, HI0.out⟩
  case round =>
    obtain ⟨k', hk, rfl, hI⟩ := hrel
    have HI := Lib.hid hI
    have Hk := Lib.hid hk
    by_cases hlt : k' < n
    · obtain ⟨⟨x, y⟩, hp⟩ : ∃ p, l[k']? = some p := ⟨_, List.getElem?_eq_getElem (by have := Hl.out; omega)⟩
      obtain ⟨cs, hb, hc⟩ := hI.blk
      have c0 : wr.cell? ⟨g1, k', none⟩ = some (.complex .f64 x y) := by rw [hb.cell, hc _ _ hp, if_neg (by omega)]
      have hfz := hb.frozen k'
      have hki : (k' : Int) < (n : Int) := by omega
      have hk0 : (0 : Int) ≤ (k' : Int) := by omega
      have HS := Lib.hid (HI.out.step hp)
      clear hI hb hc hp hk
      rcases hr4 with h0 | h3
      · subst h0
        go_wp2_with fail
        go_roundg (n - (k' + 1))
        case measure => have := Hk.out; omega
        case rel => exact ⟨k' + 1, by have := Hk.out; omega, by go_num, HS.out⟩
      · subst h3
        go_wp2_with fail
        go_roundg (n - (k' + 1))
        case measure => have := Hk.out; omega
        case rel => exact ⟨k' + 1, by have := Hk.out; omega, by go_num, HS.out⟩
    · have hkn : k' = n := by omega
      subst hkn
      go_wp2_with fail
      go_ret
      exact ⟨g1, cap1, rfl, HI.out, HCP.out⟩
end Go.Proofs.Ytjnefafkpaopaaa

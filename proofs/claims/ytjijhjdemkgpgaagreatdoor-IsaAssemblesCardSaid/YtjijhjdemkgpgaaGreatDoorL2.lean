/- Lines of a program's text, plain: what is read is what is told. -/
import Derived.Test.YtjijhjdemkgpgaaGreatDoorL1
namespace Go.Proofs.YtjijhjdemkgpgaaGreatDoor
set_option linter.unusedVariables false
set_option linter.unusedSimpArgs false
section
variable {rd : List UInt8 → Option Int} {rm : UInt8 → List UInt8 → Option Int} {lab : Bool} {k : Nat} {f : List UInt8} {v : List UInt8} {vs : List (List UInt8)} {i : In} {to : List UInt8} {R : In × List UInt8}
theorem fieldsG_a (h : fieldsG rd rm lab k (97 :: f) (v :: vs) i to = some R) : ∃ n r, v = 114 :: r ∧ rd r = some n ∧ fieldsG rd rm lab k f vs { i with a := n } to = some R := by
  unfold fieldsG at h
  rw [if_pos (.inl rfl)] at h
  split at h
  · next r =>
    split at h
    · next n hn => exact ⟨n, r, rfl, hn, by simpa using h⟩
    · cases h
  · cases h
theorem fieldsG_b (h : fieldsG rd rm lab k (98 :: f) (v :: vs) i to = some R) : ∃ n r, v = 114 :: r ∧ rd r = some n ∧ fieldsG rd rm lab k f vs { i with b := n } to = some R := by
  unfold fieldsG at h
  rw [if_pos (.inr rfl)] at h
  split at h
  · next r =>
    split at h
    · next n hn => exact ⟨n, r, rfl, hn, by simpa using h⟩
    · cases h
  · cases h
theorem fieldsG_u (h : fieldsG rd rm lab k (117 :: f) (v :: vs) i to = some R) : ∃ n, rm 117 v = some n ∧ fieldsG rd rm lab k f vs { i with m := n } to = some R := by
  unfold fieldsG at h
  rw [if_neg (by decide), if_neg (by rintro ⟨-, h, -⟩; exact absurd h (by decide))] at h
  split at h
  · next n hn => exact ⟨n, hn, h⟩
  · cases h
theorem fieldsG_s (h : fieldsG rd rm lab k (115 :: f) (v :: vs) i to = some R) : (lab = true ∧ k ≠ 19 ∧ ∃ l, v = 64 :: l ∧ isLab l = true ∧ fieldsG rd rm lab k f vs i l = some R) ∨ ∃ n, rm 115 v = some n ∧ fieldsG rd rm lab k f vs { i with m := n } to = some R := by
  unfold fieldsG at h
  rw [if_neg (by decide)] at h
  split at h
  · next hc =>
    obtain ⟨h1, -, h3, h4, h5⟩ := hc
    left
    refine ⟨h1, h3, v.tail, ?_, h5, h⟩
    cases v with
    | nil => cases h4
    | cons b r => simp at h4; rw [h4]; rfl
  · split at h
    · next n hn => exact .inr ⟨n, hn, h⟩
    · cases h
theorem fieldsG_nil (h : fieldsG rd rm lab k [] vs i to = some R) : R = (i, to) := by
  unfold fieldsG at h
  injection h with h
  exact h.symm
end
theorem ok_a {i : In} {k : Nat} (h : okL i k = true) (hf : (fmL k).contains 97 = true) : 0 ≤ i.a ∧ i.a ≤ 15 := by
  unfold okL at h
  rw [hf] at h
  simp [fitsL] at h
  exact h.1.1
theorem ok_b {i : In} {k : Nat} (h : okL i k = true) (hf : (fmL k).contains 98 = true) : 0 ≤ i.b ∧ i.b ≤ 15 := by
  unfold okL at h
  rw [hf] at h
  simp [fitsL] at h
  exact h.1.2
theorem ok_u {i : In} {k : Nat} (h : okL i k = true) (hf : (fmL k).contains 117 = true) (h2 : (fmL k).contains 115 = false) : 0 ≤ i.m ∧ i.m ≤ 65535 := by
  unfold okL at h
  rw [hf, h2] at h
  simp [fitsL] at h
  exact h.2
theorem ok_s {i : In} {k : Nat} (h : okL i k = true) (hf : (fmL k).contains 115 = true) : -32768 ≤ i.m ∧ i.m ≤ 32767 := by
  unfold okL at h
  rw [hf] at h
  simp [fitsL] at h
  exact h.2
theorem ok_na {i : In} {k : Nat} (h : okL i k = true) (hf : (fmL k).contains 97 = false) : i.a = 0 := by
  unfold okL at h
  rw [hf] at h
  simp [fitsL] at h
  exact h.1.1
theorem ok_nb {i : In} {k : Nat} (h : okL i k = true) (hf : (fmL k).contains 98 = false) : i.b = 0 := by
  unfold okL at h
  rw [hf] at h
  simp [fitsL] at h
  exact h.1.2
theorem ok_nm {i : In} {k : Nat} (h : okL i k = true) (hf : (fmL k).contains 117 = false) (h2 : (fmL k).contains 115 = false) : i.m = 0 := by
  unfold okL at h
  rw [hf, h2] at h
  simp [fitsL] at h
  exact h.2
theorem len0 {α : Type} {l : List α} (h : l.length = 0) : l = [] := List.length_eq_zero_iff.1 h
theorem len1 {α : Type} {l : List α} (h : l.length = 1) : ∃ a, l = [a] := List.length_eq_one_iff.1 h
theorem len2 {α : Type} {l : List α} (h : l.length = 2) : ∃ a b, l = [a, b] := by
  match l, h with
  | [a, b], _ => exact ⟨a, b, rfl⟩
theorem len3 {α : Type} {l : List α} (h : l.length = 3) : ∃ a b c, l = [a, b, c] := by
  match l, h with
  | [a, b, c], _ => exact ⟨a, b, c, rfl⟩
section
variable {rd : List UInt8 → Option Int} {rm : UInt8 → List UInt8 → Option Int}
/-- What the fields say. -/
theorem fieldsG_says (hok : RdOk rd rm) {lab : Bool} {k : Nat} (hk : k < 30) {vs : List (List UInt8)} {i : In} {to : List UInt8} (hl : vs.length = (fmL k).length) (h : fieldsG rd rm lab k (fmL k) vs ⟨k, 0, 0, 0⟩ [] = some (i, to)) (ho : okL i k = true) :
    i.op = (k : Int) ∧ vs = (fmL k).map (fieldT i to) ∧ (to = [] ∨ (lab = true ∧ isLab to = true ∧ i.m = 0 ∧ (fmL k).contains 115 = true ∧ k ≠ 19)) := by
  have ne : ∀ l, isLab l = true → l ≠ [] := fun l hl he => by rw [he] at hl; cases hl
  rcases fm_cases hk with hf | hf | hf | hf | hf | hf | hf | hf
  · rw [hf] at h hl ⊢
    rw [len0 hl] at h ⊢
    have := fieldsG_nil h
    injection this with h1 h2
    subst h1; subst h2
    exact ⟨rfl, rfl, .inl rfl⟩
  · have oa := ok_a ho (by rw [hf]; rfl)
    rw [hf] at h hl ⊢
    obtain ⟨v, rfl⟩ := len1 hl
    obtain ⟨n, r, rfl, hn, h⟩ := fieldsG_a h
    have := fieldsG_nil h
    injection this with h1 h2
    subst h1; subst h2
    have hr := (hok.r r n oa.1 oa.2).1 hn
    subst hr
    exact ⟨rfl, rfl, .inl rfl⟩
  · have oa := ok_a ho (by rw [hf]; rfl)
    have ob := ok_b ho (by rw [hf]; rfl)
    rw [hf] at h hl ⊢
    obtain ⟨v, v2, rfl⟩ := len2 hl
    obtain ⟨n, r, rfl, hn, h⟩ := fieldsG_a h
    obtain ⟨n2, r2, rfl, hn2, h⟩ := fieldsG_b h
    have := fieldsG_nil h
    injection this with h1 h2
    subst h1; subst h2
    have hr := (hok.r r n oa.1 oa.2).1 hn
    have hr2 := (hok.r r2 n2 ob.1 ob.2).1 hn2
    subst hr; subst hr2
    exact ⟨rfl, rfl, .inl rfl⟩
  · have oa := ok_a ho (by rw [hf]; rfl)
    have ob := ok_b ho (by rw [hf]; rfl)
    have om := ok_u ho (by rw [hf]; rfl) (by rw [hf]; rfl)
    rw [hf] at h hl ⊢
    obtain ⟨v, v2, v3, rfl⟩ := len3 hl
    obtain ⟨n, r, rfl, hn, h⟩ := fieldsG_a h
    obtain ⟨n2, r2, rfl, hn2, h⟩ := fieldsG_b h
    obtain ⟨n3, hn3, h⟩ := fieldsG_u h
    have := fieldsG_nil h
    injection this with h1 h2
    subst h1; subst h2
    have hr := (hok.r r n oa.1 oa.2).1 hn
    have hr2 := (hok.r r2 n2 ob.1 ob.2).1 hn2
    have hr3 := (hok.u v3 n3 om.1 om.2).1 hn3
    subst hr; subst hr2; subst hr3
    exact ⟨rfl, rfl, .inl rfl⟩
  · have oa := ok_a ho (by rw [hf]; rfl)
    have om := ok_u ho (by rw [hf]; rfl) (by rw [hf]; rfl)
    rw [hf] at h hl ⊢
    obtain ⟨v, v3, rfl⟩ := len2 hl
    obtain ⟨n, r, rfl, hn, h⟩ := fieldsG_a h
    obtain ⟨n3, hn3, h⟩ := fieldsG_u h
    have := fieldsG_nil h
    injection this with h1 h2
    subst h1; subst h2
    have hr := (hok.r r n oa.1 oa.2).1 hn
    have hr3 := (hok.u v3 n3 om.1 om.2).1 hn3
    subst hr; subst hr3
    exact ⟨rfl, rfl, .inl rfl⟩
  · have oa := ok_a ho (by rw [hf]; rfl)
    have om := ok_s ho (by rw [hf]; rfl)
    rw [hf] at h hl ⊢
    obtain ⟨v, v3, rfl⟩ := len2 hl
    obtain ⟨n, r, rfl, hn, h⟩ := fieldsG_a h
    rcases fieldsG_s h with ⟨h1, h2, l, rfl, h3, h⟩ | ⟨n3, hn3, h⟩
    · have := fieldsG_nil h
      injection this with h4 h5
      subst h4; subst h5
      have hr := (hok.r r n oa.1 oa.2).1 hn
      subst hr
      refine ⟨rfl, ?_, .inr ⟨h1, h3, rfl, rfl, h2⟩⟩
      simp [fieldT, ne _ h3]
    · have := fieldsG_nil h
      injection this with h1 h2
      subst h1; subst h2
      have hr := (hok.r r n oa.1 oa.2).1 hn
      have hr3 := (hok.s v3 n3 om.1 om.2).1 hn3
      subst hr; subst hr3
      exact ⟨rfl, rfl, .inl rfl⟩
  · have om := ok_s ho (by rw [hf]; rfl)
    rw [hf] at h hl ⊢
    obtain ⟨v3, rfl⟩ := len1 hl
    rcases fieldsG_s h with ⟨h1, h2, l, rfl, h3, h⟩ | ⟨n3, hn3, h⟩
    · have := fieldsG_nil h
      injection this with h4 h5
      subst h4; subst h5
      refine ⟨rfl, ?_, .inr ⟨h1, h3, rfl, rfl, h2⟩⟩
      simp [fieldT, ne _ h3]
    · have := fieldsG_nil h
      injection this with h1 h2
      subst h1; subst h2
      have hr3 := (hok.s v3 n3 om.1 om.2).1 hn3
      subst hr3
      exact ⟨rfl, rfl, .inl rfl⟩
  · have om := ok_u ho (by rw [hf]; rfl) (by rw [hf]; rfl)
    rw [hf] at h hl ⊢
    obtain ⟨v3, rfl⟩ := len1 hl
    obtain ⟨n3, hn3, h⟩ := fieldsG_u h
    have := fieldsG_nil h
    injection this with h1 h2
    subst h1; subst h2
    have hr3 := (hok.u v3 n3 om.1 om.2).1 hn3
    subst hr3
    exact ⟨rfl, rfl, .inl rfl⟩
/-- What is told is read. -/
theorem fieldsG_of (hok : RdOk rd rm) {lab : Bool} {k : Nat} (hk : k < 30) {i : In} {to : List UInt8} (hop : i.op = (k : Int)) (ho : okL i k = true) (ht : to = [] ∨ (lab = true ∧ isLab to = true ∧ i.m = 0 ∧ (fmL k).contains 115 = true ∧ k ≠ 19)) :
    fieldsG rd rm lab k (fmL k) ((fmL k).map (fieldT i to)) ⟨k, 0, 0, 0⟩ [] = some (i, to) := by
  have ne : ∀ l, isLab l = true → l ≠ [] := fun l hl he => by rw [he] at hl; cases hl
  obtain ⟨op, a, b, m⟩ := i
  simp only at hop
  subst hop
  have h64 : ∀ n, (Lib.itoa n).head? ≠ some 64 := fun n hh => by
    have := itoa_no (n := n) (c := 64) (by decide) (by decide)
    exact this (List.mem_of_head? hh)
  rcases fm_cases hk with hf | hf | hf | hf | hf | hf | hf | hf
  · have za := ok_na ho (by rw [hf]; rfl)
    have zb := ok_nb ho (by rw [hf]; rfl)
    have zm := ok_nm ho (by rw [hf]; rfl) (by rw [hf]; rfl)
    simp only at za zb zm
    subst za; subst zb; subst zm
    rw [hf] at ht ⊢
    rcases ht with rfl | ⟨-, -, -, h, -⟩
    · rfl
    · cases h
  · have oa := ok_a ho (by rw [hf]; rfl)
    have zb := ok_nb ho (by rw [hf]; rfl)
    have zm := ok_nm ho (by rw [hf]; rfl) (by rw [hf]; rfl)
    simp only at oa zb zm
    subst zb; subst zm
    rw [hf] at ht ⊢
    rcases ht with rfl | ⟨-, -, -, h, -⟩
    · simp [fieldsG, fieldT, (hok.r _ a oa.1 oa.2).2 rfl]
    · exact absurd h (by decide)
  · have oa := ok_a ho (by rw [hf]; rfl)
    have ob := ok_b ho (by rw [hf]; rfl)
    have zm := ok_nm ho (by rw [hf]; rfl) (by rw [hf]; rfl)
    simp only at oa ob zm
    subst zm
    rw [hf] at ht ⊢
    rcases ht with rfl | ⟨-, -, -, h, -⟩
    · simp [fieldsG, fieldT, (hok.r _ a oa.1 oa.2).2 rfl, (hok.r _ b ob.1 ob.2).2 rfl]
    · exact absurd h (by decide)
  · have oa := ok_a ho (by rw [hf]; rfl)
    have ob := ok_b ho (by rw [hf]; rfl)
    have om := ok_u ho (by rw [hf]; rfl) (by rw [hf]; rfl)
    simp only at oa ob om
    rw [hf] at ht ⊢
    rcases ht with rfl | ⟨-, -, -, h, -⟩
    · simp [fieldsG, fieldT, (hok.r _ a oa.1 oa.2).2 rfl, (hok.r _ b ob.1 ob.2).2 rfl, (hok.u _ m om.1 om.2).2 rfl]
    · exact absurd h (by decide)
  · have oa := ok_a ho (by rw [hf]; rfl)
    have zb := ok_nb ho (by rw [hf]; rfl)
    have om := ok_u ho (by rw [hf]; rfl) (by rw [hf]; rfl)
    simp only at oa zb om
    subst zb
    rw [hf] at ht ⊢
    rcases ht with rfl | ⟨-, -, -, h, -⟩
    · simp [fieldsG, fieldT, (hok.r _ a oa.1 oa.2).2 rfl, (hok.u _ m om.1 om.2).2 rfl]
    · exact absurd h (by decide)
  · have oa := ok_a ho (by rw [hf]; rfl)
    have zb := ok_nb ho (by rw [hf]; rfl)
    have om := ok_s ho (by rw [hf]; rfl)
    simp only at oa zb om
    subst zb
    rw [hf] at ht ⊢
    rcases ht with rfl | ⟨h1, h2, h3, -, h5⟩
    · simp [fieldsG, fieldT, (hok.r _ a oa.1 oa.2).2 rfl, (hok.s _ m om.1 om.2).2 rfl, h64]
    · simp only at h3
      subst h3
      simp [fieldsG, fieldT, (hok.r _ a oa.1 oa.2).2 rfl, ne _ h2, h1, h2, h5]
  · have za := ok_na ho (by rw [hf]; rfl)
    have zb := ok_nb ho (by rw [hf]; rfl)
    have om := ok_s ho (by rw [hf]; rfl)
    simp only at za zb om
    subst za; subst zb
    rw [hf] at ht ⊢
    rcases ht with rfl | ⟨h1, h2, h3, -, h5⟩
    · simp [fieldsG, fieldT, (hok.s _ m om.1 om.2).2 rfl, h64]
    · simp only at h3
      subst h3
      simp [fieldsG, fieldT, ne _ h2, h1, h2, h5]
  · have za := ok_na ho (by rw [hf]; rfl)
    have zb := ok_nb ho (by rw [hf]; rfl)
    have om := ok_u ho (by rw [hf]; rfl) (by rw [hf]; rfl)
    simp only at za zb om
    subst za; subst zb
    rw [hf] at ht ⊢
    rcases ht with rfl | ⟨-, -, -, h, -⟩
    · simp [fieldsG, fieldT, (hok.u _ m om.1 om.2).2 rfl]
    · exact absurd h (by decide)
/-- WHAT IS READ IS WHAT IS TOLD, AND NOTHING ELSE. -/
theorem readG_iff (hok : RdOk rd rm) {lab : Bool} {s : List UInt8} {i : In} {to : List UInt8} : readG rd rm lab s = some (i, to) ↔ Reads s lab i to := by
  constructor
  · intro h
    obtain ⟨w, vs, e, hj, -, -⟩ := splitC_join 32 s
    unfold readG at h
    rw [e] at h
    simp only at h
    split at h
    · cases h
    · next k hk =>
      obtain ⟨hk30, hnm⟩ := opOf_some hk
      split at h
      · next hl =>
        split at h
        · cases h
        · next i' to' hfs =>
          split at h
          · next ho =>
            injection h with h
            injection h with h1 h2
            subst h1; subst h2
            obtain ⟨h1, h2, h3⟩ := fieldsG_says hok hk30 hl hfs ho
            refine ⟨k, hk30, h1, ho, ?_, h3⟩
            rw [hj, h2, ← hnm]
            rfl
          · cases h
      · cases h
  · rintro ⟨k, hk, hop, ho, rfl, ht⟩
    unfold readG
    rw [splitC_text hk (ht.imp_right fun h => h.2.1)]
    simp only
    rw [opOf_nm hk]
    simp only
    rw [if_pos (by simp), fieldsG_of hok hk hop ho ht]
    simp only
    rw [if_pos ho]
end
/-- The program and the document read alike. -/
theorem read_same (lab : Bool) (s : List UInt8) : readG numP (fun _ => numP) lab s = readG rdR rmR lab s := by
  apply Option.ext
  rintro ⟨i, to⟩
  rw [readG_iff numP_ok, readG_iff numR_ok]
end Go.Proofs.YtjijhjdemkgpgaaGreatDoor

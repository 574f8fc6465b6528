/- Lines of a program's text, plain: what is read is what is told. A program's text assembled, plain: kinds of lines, two passes; so many lines further on. No program in sight. Two programs' texts one behind the other; texts moved: the laws of IsaMoves and IsaJoins, plain. Programs listed, plain: bytes and instructions, each line's kind; what is listed is assembled again. No program in sight. Listings' lengths; a program listed and assembled; jumps to labels: the laws of IsaBack, IsaLines, IsaLabels, plain. -/
import Derived.Test.YtbmaecdlkchkeaaGreatDoorL1
namespace Go.Proofs.YtbmaecdlkchkeaaGreatDoor
set_option linter.unusedVariables false
set_option linter.unusedSimpArgs false
section
variable {rd : List UInt8 → Option Int} {rm : UInt8 → List UInt8 → Option Int} {lab : Bool} {k : Nat} {f : List UInt8} {v : List UInt8} {vs : List (List UInt8)} {i : In} {to : List UInt8} {R : In × List UInt8}
theorem fieldsG_a (h : fieldsG rd rm lab k (97 :: f) (v :: vs) i to = some R) : ∃ n r, v = 114 :: r ∧ rd r = some n ∧ fieldsG rd rm lab k f vs { i with a := n } to = some R := by
  unfold fieldsG at h
  rw [if_pos (.inl rfl)] at h
  split at h
  · next r =>
    split at h
    · next n hn => exact ⟨n, r, rfl, hn, by simpa using h⟩
    · cases h
  · cases h
theorem fieldsG_b (h : fieldsG rd rm lab k (98 :: f) (v :: vs) i to = some R) : ∃ n r, v = 114 :: r ∧ rd r = some n ∧ fieldsG rd rm lab k f vs { i with b := n } to = some R := by
  unfold fieldsG at h
  rw [if_pos (.inr rfl)] at h
  split at h
  · next r =>
    split at h
    · next n hn => exact ⟨n, r, rfl, hn, by simpa using h⟩
    · cases h
  · cases h
theorem fieldsG_u (h : fieldsG rd rm lab k (117 :: f) (v :: vs) i to = some R) : ∃ n, rm 117 v = some n ∧ fieldsG rd rm lab k f vs { i with m := n } to = some R := by
  unfold fieldsG at h
  rw [if_neg (by decide), if_neg (by rintro ⟨-, h, -⟩; exact absurd h (by decide))] at h
  split at h
  · next n hn => exact ⟨n, hn, h⟩
  · cases h
theorem fieldsG_s (h : fieldsG rd rm lab k (115 :: f) (v :: vs) i to = some R) : (lab = true ∧ k ≠ 19 ∧ ∃ l, v = 64 :: l ∧ isLab l = true ∧ fieldsG rd rm lab k f vs i l = some R) ∨ ∃ n, rm 115 v = some n ∧ fieldsG rd rm lab k f vs { i with m := n } to = some R := by
  unfold fieldsG at h
  rw [if_neg (by decide)] at h
  split at h
  · next hc =>
    obtain ⟨h1, -, h3, h4, h5⟩ := hc
    left
    refine ⟨h1, h3, v.tail, ?_, h5, h⟩
    cases v with
    | nil => cases h4
    | cons b r => simp at h4; rw [h4]; rfl
  · split at h
    · next n hn => exact .inr ⟨n, hn, h⟩
    · cases h
theorem fieldsG_nil (h : fieldsG rd rm lab k [] vs i to = some R) : R = (i, to) := by
  unfold fieldsG at h
  injection h with h
  exact h.symm
end
theorem ok_a {i : In} {k : Nat} (h : okL i k = true) (hf : (fmL k).contains 97 = true) : 0 ≤ i.a ∧ i.a ≤ 15 := by
  unfold okL at h
  rw [hf] at h
  simp [fitsL] at h
  exact h.1.1
theorem ok_b {i : In} {k : Nat} (h : okL i k = true) (hf : (fmL k).contains 98 = true) : 0 ≤ i.b ∧ i.b ≤ 15 := by
  unfold okL at h
  rw [hf] at h
  simp [fitsL] at h
  exact h.1.2
theorem ok_u {i : In} {k : Nat} (h : okL i k = true) (hf : (fmL k).contains 117 = true) (h2 : (fmL k).contains 115 = false) : 0 ≤ i.m ∧ i.m ≤ 65535 := by
  unfold okL at h
  rw [hf, h2] at h
  simp [fitsL] at h
  exact h.2
theorem ok_s {i : In} {k : Nat} (h : okL i k = true) (hf : (fmL k).contains 115 = true) : -32768 ≤ i.m ∧ i.m ≤ 32767 := by
  unfold okL at h
  rw [hf] at h
  simp [fitsL] at h
  exact h.2
theorem ok_na {i : In} {k : Nat} (h : okL i k = true) (hf : (fmL k).contains 97 = false) : i.a = 0 := by
  unfold okL at h
  rw [hf] at h
  simp [fitsL] at h
  exact h.1.1
theorem ok_nb {i : In} {k : Nat} (h : okL i k = true) (hf : (fmL k).contains 98 = false) : i.b = 0 := by
  unfold okL at h
  rw [hf] at h
  simp [fitsL] at h
  exact h.1.2
theorem ok_nm {i : In} {k : Nat} (h : okL i k = true) (hf : (fmL k).contains 117 = false) (h2 : (fmL k).contains 115 = false) : i.m = 0 := by
  unfold okL at h
  rw [hf, h2] at h
  simp [fitsL] at h
  exact h.2
theorem len0 {α : Type} {l : List α} (h : l.length = 0) : l = [] := List.length_eq_zero_iff.1 h
theorem len1 {α : Type} {l : List α} (h : l.length = 1) : ∃ a, l = [a] := List.length_eq_one_iff.1 h
theorem len2 {α : Type} {l : List α} (h : l.length = 2) : ∃ a b, l = [a, b] := by
  match l, h with
  | [a, b], _ => exact ⟨a, b, rfl⟩
theorem len3 {α : Type} {l : List α} (h : l.length = 3) : ∃ a b c, l = [a, b, c] := by
  match l, h with
  | [a, b, c], _ => exact ⟨a, b, c, rfl⟩
section
variable {rd : List UInt8 → Option Int} {rm : UInt8 → List UInt8 → Option Int}
/-- What the fields say. -/
theorem fieldsG_says (hok : RdOk rd rm) {lab : Bool} {k : Nat} (hk : k < 30) {vs : List (List UInt8)} {i : In} {to : List UInt8} (hl : vs.length = (fmL k).length) (h : fieldsG rd rm lab k (fmL k) vs ⟨k, 0, 0, 0⟩ [] = some (i, to)) (ho : okL i k = true) :
    i.op = (k : Int) ∧ vs = (fmL k).map (fieldT i to) ∧ (to = [] ∨ (lab = true ∧ isLab to = true ∧ i.m = 0 ∧ (fmL k).contains 115 = true ∧ k ≠ 19)) := by
  have ne : ∀ l, isLab l = true → l ≠ [] := fun l hl he => by rw [he] at hl; cases hl
  rcases fm_cases hk with hf | hf | hf | hf | hf | hf | hf | hf
  · rw [hf] at h hl ⊢
    rw [len0 hl] at h ⊢
    have := fieldsG_nil h
    injection this with h1 h2
    subst h1; subst h2
    exact ⟨rfl, rfl, .inl rfl⟩
  · have oa := ok_a ho (by rw [hf]; rfl)
    rw [hf] at h hl ⊢
    obtain ⟨v, rfl⟩ := len1 hl
    obtain ⟨n, r, rfl, hn, h⟩ := fieldsG_a h
    have := fieldsG_nil h
    injection this with h1 h2
    subst h1; subst h2
    have hr := (hok.r r n oa.1 oa.2).1 hn
    subst hr
    exact ⟨rfl, rfl, .inl rfl⟩
  · have oa := ok_a ho (by rw [hf]; rfl)
    have ob := ok_b ho (by rw [hf]; rfl)
    rw [hf] at h hl ⊢
    obtain ⟨v, v2, rfl⟩ := len2 hl
    obtain ⟨n, r, rfl, hn, h⟩ := fieldsG_a h
    obtain ⟨n2, r2, rfl, hn2, h⟩ := fieldsG_b h
    have := fieldsG_nil h
    injection this with h1 h2
    subst h1; subst h2
    have hr := (hok.r r n oa.1 oa.2).1 hn
    have hr2 := (hok.r r2 n2 ob.1 ob.2).1 hn2
    subst hr; subst hr2
    exact ⟨rfl, rfl, .inl rfl⟩
  · have oa := ok_a ho (by rw [hf]; rfl)
    have ob := ok_b ho (by rw [hf]; rfl)
    have om := ok_u ho (by rw [hf]; rfl) (by rw [hf]; rfl)
    rw [hf] at h hl ⊢
    obtain ⟨v, v2, v3, rfl⟩ := len3 hl
    obtain ⟨n, r, rfl, hn, h⟩ := fieldsG_a h
    obtain ⟨n2, r2, rfl, hn2, h⟩ := fieldsG_b h
    obtain ⟨n3, hn3, h⟩ := fieldsG_u h
    have := fieldsG_nil h
    injection this with h1 h2
    subst h1; subst h2
    have hr := (hok.r r n oa.1 oa.2).1 hn
    have hr2 := (hok.r r2 n2 ob.1 ob.2).1 hn2
    have hr3 := (hok.u v3 n3 om.1 om.2).1 hn3
    subst hr; subst hr2; subst hr3
    exact ⟨rfl, rfl, .inl rfl⟩
  · have oa := ok_a ho (by rw [hf]; rfl)
    have om := ok_u ho (by rw [hf]; rfl) (by rw [hf]; rfl)
    rw [hf] at h hl ⊢
    obtain ⟨v, v3, rfl⟩ := len2 hl
    obtain ⟨n, r, rfl, hn, h⟩ := fieldsG_a h
    obtain ⟨n3, hn3, h⟩ := fieldsG_u h
    have := fieldsG_nil h
    injection this with h1 h2
    subst h1; subst h2
    have hr := (hok.r r n oa.1 oa.2).1 hn
    have hr3 := (hok.u v3 n3 om.1 om.2).1 hn3
    subst hr; subst hr3
    exact ⟨rfl, rfl, .inl rfl⟩
  · have oa := ok_a ho (by rw [hf]; rfl)
    have om := ok_s ho (by rw [hf]; rfl)
    rw [hf] at h hl ⊢
    obtain ⟨v, v3, rfl⟩ := len2 hl
    obtain ⟨n, r, rfl, hn, h⟩ := fieldsG_a h
    rcases fieldsG_s h with ⟨h1, h2, l, rfl, h3, h⟩ | ⟨n3, hn3, h⟩
    · have := fieldsG_nil h
      injection this with h4 h5
      subst h4; subst h5
      have hr := (hok.r r n oa.1 oa.2).1 hn
      subst hr
      refine ⟨rfl, ?_, .inr ⟨h1, h3, rfl, rfl, h2⟩⟩
      simp [fieldT, ne _ h3]
    · have := fieldsG_nil h
      injection this with h1 h2
      subst h1; subst h2
      have hr := (hok.r r n oa.1 oa.2).1 hn
      have hr3 := (hok.s v3 n3 om.1 om.2).1 hn3
      subst hr; subst hr3
      exact ⟨rfl, rfl, .inl rfl⟩
  · have om := ok_s ho (by rw [hf]; rfl)
    rw [hf] at h hl ⊢
    obtain ⟨v3, rfl⟩ := len1 hl
    rcases fieldsG_s h with ⟨h1, h2, l, rfl, h3, h⟩ | ⟨n3, hn3, h⟩
    · have := fieldsG_nil h
      injection this with h4 h5
      subst h4; subst h5
      refine ⟨rfl, ?_, .inr ⟨h1, h3, rfl, rfl, h2⟩⟩
      simp [fieldT, ne _ h3]
    · have := fieldsG_nil h
      injection this with h1 h2
      subst h1; subst h2
      have hr3 := (hok.s v3 n3 om.1 om.2).1 hn3
      subst hr3
      exact ⟨rfl, rfl, .inl rfl⟩
  · have om := ok_u ho (by rw [hf]; rfl) (by rw [hf]; rfl)
    rw [hf] at h hl ⊢
    obtain ⟨v3, rfl⟩ := len1 hl
    obtain ⟨n3, hn3, h⟩ := fieldsG_u h
    have := fieldsG_nil h
    injection this with h1 h2
    subst h1; subst h2
    have hr3 := (hok.u v3 n3 om.1 om.2).1 hn3
    subst hr3
    exact ⟨rfl, rfl, .inl rfl⟩
/-- What is told is read. -/
theorem fieldsG_of (hok : RdOk rd rm) {lab : Bool} {k : Nat} (hk : k < 30) {i : In} {to : List UInt8} (hop : i.op = (k : Int)) (ho : okL i k = true) (ht : to = [] ∨ (lab = true ∧ isLab to = true ∧ i.m = 0 ∧ (fmL k).contains 115 = true ∧ k ≠ 19)) :
    fieldsG rd rm lab k (fmL k) ((fmL k).map (fieldT i to)) ⟨k, 0, 0, 0⟩ [] = some (i, to) := by
  have ne : ∀ l, isLab l = true → l ≠ [] := fun l hl he => by rw [he] at hl; cases hl
  obtain ⟨op, a, b, m⟩ := i
  simp only at hop
  subst hop
  have h64 : ∀ n, (Lib.itoa n).head? ≠ some 64 := fun n hh => by
    have := itoa_no (n := n) (c := 64) (by decide) (by decide)
    exact this (List.mem_of_head? hh)
  rcases fm_cases hk with hf | hf | hf | hf | hf | hf | hf | hf
  · have za := ok_na ho (by rw [hf]; rfl)
    have zb := ok_nb ho (by rw [hf]; rfl)
    have zm := ok_nm ho (by rw [hf]; rfl) (by rw [hf]; rfl)
    simp only at za zb zm
    subst za; subst zb; subst zm
    rw [hf] at ht ⊢
    rcases ht with rfl | ⟨-, -, -, h, -⟩
    · rfl
    · cases h
  · have oa := ok_a ho (by rw [hf]; rfl)
    have zb := ok_nb ho (by rw [hf]; rfl)
    have zm := ok_nm ho (by rw [hf]; rfl) (by rw [hf]; rfl)
    simp only at oa zb zm
    subst zb; subst zm
    rw [hf] at ht ⊢
    rcases ht with rfl | ⟨-, -, -, h, -⟩
    · simp [fieldsG, fieldT, (hok.r _ a oa.1 oa.2).2 rfl]
    · exact absurd h (by decide)
  · have oa := ok_a ho (by rw [hf]; rfl)
    have ob := ok_b ho (by rw [hf]; rfl)
    have zm := ok_nm ho (by rw [hf]; rfl) (by rw [hf]; rfl)
    simp only at oa ob zm
    subst zm
    rw [hf] at ht ⊢
    rcases ht with rfl | ⟨-, -, -, h, -⟩
    · simp [fieldsG, fieldT, (hok.r _ a oa.1 oa.2).2 rfl, (hok.r _ b ob.1 ob.2).2 rfl]
    · exact absurd h (by decide)
  · have oa := ok_a ho (by rw [hf]; rfl)
    have ob := ok_b ho (by rw [hf]; rfl)
    have om := ok_u ho (by rw [hf]; rfl) (by rw [hf]; rfl)
    simp only at oa ob om
    rw [hf] at ht ⊢
    rcases ht with rfl | ⟨-, -, -, h, -⟩
    · simp [fieldsG, fieldT, (hok.r _ a oa.1 oa.2).2 rfl, (hok.r _ b ob.1 ob.2).2 rfl, (hok.u _ m om.1 om.2).2 rfl]
    · exact absurd h (by decide)
  · have oa := ok_a ho (by rw [hf]; rfl)
    have zb := ok_nb ho (by rw [hf]; rfl)
    have om := ok_u ho (by rw [hf]; rfl) (by rw [hf]; rfl)
    simp only at oa zb om
    subst zb
    rw [hf] at ht ⊢
    rcases ht with rfl | ⟨-, -, -, h, -⟩
    · simp [fieldsG, fieldT, (hok.r _ a oa.1 oa.2).2 rfl, (hok.u _ m om.1 om.2).2 rfl]
    · exact absurd h (by decide)
  · have oa := ok_a ho (by rw [hf]; rfl)
    have zb := ok_nb ho (by rw [hf]; rfl)
    have om := ok_s ho (by rw [hf]; rfl)
    simp only at oa zb om
    subst zb
    rw [hf] at ht ⊢
    rcases ht with rfl | ⟨h1, h2, h3, -, h5⟩
    · simp [fieldsG, fieldT, (hok.r _ a oa.1 oa.2).2 rfl, (hok.s _ m om.1 om.2).2 rfl, h64]
    · simp only at h3
      subst h3
      simp [fieldsG, fieldT, (hok.r _ a oa.1 oa.2).2 rfl, ne _ h2, h1, h2, h5]
  · have za := ok_na ho (by rw [hf]; rfl)
    have zb := ok_nb ho (by rw [hf]; rfl)
    have om := ok_s ho (by rw [hf]; rfl)
    simp only at za zb om
    subst za; subst zb
    rw [hf] at ht ⊢
    rcases ht with rfl | ⟨h1, h2, h3, -, h5⟩
    · simp [fieldsG, fieldT, (hok.s _ m om.1 om.2).2 rfl, h64]
    · simp only at h3
      subst h3
      simp [fieldsG, fieldT, ne _ h2, h1, h2, h5]
  · have za := ok_na ho (by rw [hf]; rfl)
    have zb := ok_nb ho (by rw [hf]; rfl)
    have om := ok_u ho (by rw [hf]; rfl) (by rw [hf]; rfl)
    simp only at za zb om
    subst za; subst zb
    rw [hf] at ht ⊢
    rcases ht with rfl | ⟨-, -, -, h, -⟩
    · simp [fieldsG, fieldT, (hok.u _ m om.1 om.2).2 rfl]
    · exact absurd h (by decide)
/-- WHAT IS READ IS WHAT IS TOLD, AND NOTHING ELSE. -/
theorem readG_iff (hok : RdOk rd rm) {lab : Bool} {s : List UInt8} {i : In} {to : List UInt8} : readG rd rm lab s = some (i, to) ↔ Reads s lab i to := by
  constructor
  · intro h
    obtain ⟨w, vs, e, hj, -, -⟩ := splitC_join 32 s
    unfold readG at h
    rw [e] at h
    simp only at h
    split at h
    · cases h
    · next k hk =>
      obtain ⟨hk30, hnm⟩ := opOf_some hk
      split at h
      · next hl =>
        split at h
        · cases h
        · next i' to' hfs =>
          split at h
          · next ho =>
            injection h with h
            injection h with h1 h2
            subst h1; subst h2
            obtain ⟨h1, h2, h3⟩ := fieldsG_says hok hk30 hl hfs ho
            refine ⟨k, hk30, h1, ho, ?_, h3⟩
            rw [hj, h2, ← hnm]
            rfl
          · cases h
      · cases h
  · rintro ⟨k, hk, hop, ho, rfl, ht⟩
    unfold readG
    rw [splitC_text hk (ht.imp_right fun h => h.2.1)]
    simp only
    rw [opOf_nm hk]
    simp only
    rw [if_pos (by simp), fieldsG_of hok hk hop ho ht]
    simp only
    rw [if_pos ho]
end
/-- The program and the document read alike. -/
theorem read_same (lab : Bool) (s : List UInt8) : readG numP (fun _ => numP) lab s = readG rdR rmR lab s := by
  apply Option.ext
  rintro ⟨i, to⟩
  rw [readG_iff numP_ok, readG_iff numR_ok]
end Go.Proofs.YtbmaecdlkchkeaaGreatDoor
namespace Go.Proofs.YtbmaecdlkchkeaaGreatDoor
set_option linter.unusedVariables false
set_option linter.unusedSimpArgs false
/-- A line's kind. -/
inductive LK where
  | blank
  | lab (l : List UInt8)
  | ins (i : In) (to : List UInt8)
  | wrd (n : Nat)
  | bad
def wordK (s : List UInt8) : Option Nat :=
  if s.take 5 = [119, 111, 114, 100, 32] then
    match numP (s.drop 5) with
    | some n => if 0 ≤ n ∧ n < 4294967296 then some n.toNat else none
    | none => none
  else none
def lineK (s : List UInt8) : LK :=
  if s = [] then .blank
  else if s.getLast? = some 58 ∧ isLab s.dropLast = true then .lab s.dropLast
  else match readG numP (fun _ => numP) true s with
    | some (i, to) => .ins i to
    | none => match wordK s with
      | some n => .wrd n
      | none => .bad
abbrev Pl := List (List UInt8 × Nat)
def findP (pl : Pl) (l : List UInt8) : Option Nat := (pl.find? fun p => p.1 == l).map (·.2)
/-- What a pass comes to: a fault's line and reason, or a value. -/
inductive AR (α : Type) where
  | bad (n : Nat) (e : Int)
  | fine (a : α)
def pass1 : List LK → Nat → Nat → Pl → AR (Nat × Pl)
  | [], n, size, pl => .fine (size, pl)
  | .blank :: ks, n, size, pl => pass1 ks (n + 1) size pl
  | .lab l :: ks, n, size, pl => if (findP pl l).isSome then .bad (n + 1) 93 else pass1 ks (n + 1) size ((l, size) :: pl)
  | .ins i to :: ks, n, size, pl => if 4096 < size + 4 then .bad (n + 1) 94 else pass1 ks (n + 1) (size + 4) pl
  | .wrd w :: ks, n, size, pl => if 4096 < size + 4 then .bad (n + 1) 94 else pass1 ks (n + 1) (size + 4) pl
  | .bad :: ks, n, size, pl => .bad (n + 1) 92
def byte (n : Nat) : UInt8 := UInt8.ofNat (n % 256)
def fourB (n : Nat) : List UInt8 := [byte (n / 16777216), byte (n / 65536), byte (n / 256), byte n]
def encL (i : In) : List UInt8 := [byte i.op.toNat, byte (16 * i.a + i.b).toNat, byte ((i.m % 65536).toNat / 256), byte (i.m % 65536).toNat]
theorem encL_len (i : In) : (encL i).length = 4 := rfl
theorem fourB_len (n : Nat) : (fourB n).length = 4 := rfl
/-- The way from behind an instruction to a place. -/
def way (at_ len : Nat) : Int := ((at_ : Int) - (len : Int) - 4) / 4
def pass2 : List LK → Nat → List UInt8 → Pl → AR (List UInt8)
  | [], n, out, pl => .fine out
  | .ins i to :: ks, n, out, pl =>
    if to = [] then pass2 ks (n + 1) (out ++ encL i) pl
    else match findP pl to with
      | none => .bad (n + 1) 93
      | some at_ => if okL { i with m := way at_ out.length } i.op.toNat then pass2 ks (n + 1) (out ++ encL { i with m := way at_ out.length }) pl else .bad (n + 1) 93
  | .wrd w :: ks, n, out, pl => pass2 ks (n + 1) (out ++ fourB w) pl
  | .blank :: ks, n, out, pl => pass2 ks (n + 1) out pl
  | .lab l :: ks, n, out, pl => pass2 ks (n + 1) out pl
  | .bad :: ks, n, out, pl => pass2 ks (n + 1) out pl
def asmK (ks : List LK) : AR (List UInt8) := match pass1 ks 0 0 [] with | .bad n e => .bad n e | .fine (_, pl) => pass2 ks 0 [] pl
def told (r : AR (List UInt8)) : List UInt8 × Nat × Int := match r with | .bad n e => ([], n, e) | .fine out => (out, 0, 0)
def asm (text : List UInt8) : List UInt8 × Nat × Int := if 32768 < text.length then ([], 0, 94) else told (asmK ((splitC 10 text).map lineK))
/-! Faults. -/
theorem pass1_bad : ∀ (ks : List LK) (n size : Nat) (pl : Pl) (m : Nat) (e : Int), pass1 ks n size pl = .bad m e → n < m ∧ (e = 92 ∨ e = 93 ∨ e = 94)
  | [], n, size, pl, m, e, h => by cases h
  | k :: ks, n, size, pl, m, e, h => by
    cases k with
    | blank =>
      have := pass1_bad ks (n + 1) size pl m e h
      exact ⟨by omega, this.2⟩
    | lab l =>
      unfold pass1 at h
      split at h
      · injection h with h1 h2
        exact ⟨by omega, by omega⟩
      · have := pass1_bad ks (n + 1) size _ m e h
        exact ⟨by omega, this.2⟩
    | ins i to =>
      unfold pass1 at h
      split at h
      · injection h with h1 h2
        exact ⟨by omega, by omega⟩
      · have := pass1_bad ks (n + 1) _ pl m e h
        exact ⟨by omega, this.2⟩
    | wrd w =>
      unfold pass1 at h
      split at h
      · injection h with h1 h2
        exact ⟨by omega, by omega⟩
      · have := pass1_bad ks (n + 1) _ pl m e h
        exact ⟨by omega, this.2⟩
    | bad =>
      unfold pass1 at h
      injection h with h1 h2
      exact ⟨by omega, by omega⟩
theorem pass2_bad : ∀ (ks : List LK) (n : Nat) (out : List UInt8) (pl : Pl) (m : Nat) (e : Int), pass2 ks n out pl = .bad m e → n < m ∧ e = 93
  | [], n, out, pl, m, e, h => by cases h
  | k :: ks, n, out, pl, m, e, h => by
    cases k with
    | blank =>
      have := pass2_bad ks (n + 1) out pl m e h
      exact ⟨by omega, this.2⟩
    | lab l =>
      have := pass2_bad ks (n + 1) out pl m e h
      exact ⟨by omega, this.2⟩
    | bad =>
      have := pass2_bad ks (n + 1) out pl m e h
      exact ⟨by omega, this.2⟩
    | wrd w =>
      have := pass2_bad ks (n + 1) _ pl m e h
      exact ⟨by omega, this.2⟩
    | ins i to =>
      unfold pass2 at h
      split at h
      · have := pass2_bad ks (n + 1) _ pl m e h
        exact ⟨by omega, this.2⟩
      · split at h
        · injection h with h1 h2
          exact ⟨by omega, h2.symm⟩
        · split at h
          · have := pass2_bad ks (n + 1) _ pl m e h
            exact ⟨by omega, this.2⟩
          · injection h with h1 h2
            exact ⟨by omega, h2.symm⟩
/-! So many lines, so many bytes further on. -/
def shP (d : Nat) (pl : Pl) : Pl := pl.map fun p => (p.1, p.2 + d)
theorem findP_sh (d : Nat) (pl : Pl) (l : List UInt8) : findP (shP d pl) l = (findP pl l).map (· + d) := by
  unfold findP shP
  induction pl with
  | nil => rfl
  | cons p pl ih =>
    by_cases h : p.1 == l
    · simp [List.find?_cons, h]
    · simp only [List.map_cons, List.find?_cons, h]
      exact ih
/-- The first pass, k lines and d bytes further on: the same, or it is too long there. -/
theorem pass1_sh (k d : Nat) : ∀ (ks : List LK) (n size : Nat) (pl : Pl),
    (∃ m, pass1 ks (n + k) (size + d) (shP d pl) = .bad m 94 ∧ n + k < m) ∨
      ((∀ m e, pass1 ks n size pl = .bad m e → pass1 ks (n + k) (size + d) (shP d pl) = .bad (m + k) e) ∧ ∀ s q, pass1 ks n size pl = .fine (s, q) → pass1 ks (n + k) (size + d) (shP d pl) = .fine (s + d, shP d q))
  | [], n, size, pl => .inr ⟨(fun m e h => by cases h), (fun s q h => by injection h with h; injection h with h1 h2; subst h1; subst h2; rfl)⟩
  | x :: ks, n, size, pl => by
    have e1 : n + k + 1 = n + 1 + k := by omega
    cases x with
    | blank =>
      have ih := pass1_sh k d ks (n + 1) size pl
      show (∃ m, pass1 ks (n + k + 1) (size + d) (shP d pl) = .bad m 94 ∧ _) ∨ ((∀ m e, pass1 ks (n + 1) size pl = _ → pass1 ks (n + k + 1) (size + d) (shP d pl) = _) ∧ ∀ s q, pass1 ks (n + 1) size pl = _ → pass1 ks (n + k + 1) (size + d) (shP d pl) = _)
      rw [e1]
      exact ih.imp_left fun ⟨m, h1, h2⟩ => ⟨m, h1, by omega⟩
    | lab l =>
      unfold pass1
      rw [findP_sh, Option.isSome_map]
      by_cases hf : (findP pl l).isSome = true
      · rw [if_pos hf, if_pos hf]
        exact .inr ⟨fun m e h => by injection h with h1 h2; subst h1; subst h2; rw [e1], fun s q h => by cases h⟩
      · rw [if_neg hf, if_neg hf, e1]
        exact (pass1_sh k d ks (n + 1) size ((l, size) :: pl)).imp_left fun ⟨m, h1, h2⟩ => ⟨m, h1, by omega⟩
    | ins i to =>
      unfold pass1
      by_cases h1 : 4096 < size + d + 4
      · rw [if_pos h1]
        exact .inl ⟨_, rfl, by omega⟩
      · rw [if_neg h1, if_neg (by omega), e1, show size + d + 4 = size + 4 + d by omega]
        exact (pass1_sh k d ks (n + 1) (size + 4) pl).imp_left fun ⟨m, h1, h2⟩ => ⟨m, h1, by omega⟩
    | wrd w =>
      unfold pass1
      by_cases h1 : 4096 < size + d + 4
      · rw [if_pos h1]
        exact .inl ⟨_, rfl, by omega⟩
      · rw [if_neg h1, if_neg (by omega), e1, show size + d + 4 = size + 4 + d by omega]
        exact (pass1_sh k d ks (n + 1) (size + 4) pl).imp_left fun ⟨m, h1, h2⟩ => ⟨m, h1, by omega⟩
    | bad =>
      unfold pass1
      exact .inr ⟨fun m e h => by injection h with h1 h2; subst h1; subst h2; rw [e1], fun s q h => by cases h⟩
theorem way_sh (d a l : Nat) : way (a + d) (d + l) = way a l := by
  unfold way
  congr 1
  omega
def mapAR {α β : Type} (f : α → β) (k : Nat) : AR α → AR β
  | .bad n e => .bad (n + k) e
  | .fine a => .fine (f a)
/-- The second pass behind bytes that stand ahead. -/
theorem pass2_sh (k : Nat) (z : List UInt8) : ∀ (ks : List LK) (n : Nat) (out : List UInt8) (pl : Pl), pass2 ks (n + k) (z ++ out) (shP z.length pl) = mapAR (z ++ ·) k (pass2 ks n out pl)
  | [], n, out, pl => rfl
  | x :: ks, n, out, pl => by
    have e1 : n + k + 1 = n + 1 + k := by omega
    cases x with
    | blank =>
      show pass2 ks (n + k + 1) _ _ = mapAR _ _ (pass2 ks (n + 1) out pl)
      rw [e1]
      exact pass2_sh k z ks (n + 1) out pl
    | lab l =>
      show pass2 ks (n + k + 1) _ _ = mapAR _ _ (pass2 ks (n + 1) out pl)
      rw [e1]
      exact pass2_sh k z ks (n + 1) out pl
    | bad =>
      show pass2 ks (n + k + 1) _ _ = mapAR _ _ (pass2 ks (n + 1) out pl)
      rw [e1]
      exact pass2_sh k z ks (n + 1) out pl
    | wrd w =>
      show pass2 ks (n + k + 1) ((z ++ out) ++ fourB w) _ = mapAR _ _ (pass2 ks (n + 1) (out ++ fourB w) pl)
      rw [e1, List.append_assoc]
      exact pass2_sh k z ks (n + 1) (out ++ fourB w) pl
    | ins i to =>
      unfold pass2
      by_cases ht : to = []
      · rw [if_pos ht, if_pos ht, e1, List.append_assoc]
        exact pass2_sh k z ks (n + 1) (out ++ encL i) pl
      · rw [if_neg ht, if_neg ht, findP_sh]
        cases hf : findP pl to with
        | none =>
          show AR.bad (n + k + 1) 93 = AR.bad (n + 1 + k) 93
          rw [e1]
        | some a =>
          simp only [Option.map_some]
          rw [List.length_append, way_sh]
          by_cases ho : okL { i with m := way a out.length } i.op.toNat = true
          · rw [if_pos ho, if_pos ho, e1, List.append_assoc]
            exact pass2_sh k z ks (n + 1) _ pl
          · rw [if_neg ho, if_neg ho]
            show AR.bad (n + k + 1) 93 = AR.bad (n + 1 + k) 93
            rw [e1]
/-- Instructions ahead that say nothing but noughts. -/
def nopK : LK := .ins ⟨0, 0, 0, 0⟩ []
theorem pass1_nops : ∀ (k n size : Nat) (ks : List LK) (pl : Pl), size + 4 * k ≤ 4096 → pass1 (List.replicate k nopK ++ ks) n size pl = pass1 ks (n + k) (size + 4 * k) pl
  | 0, n, size, ks, pl, _ => rfl
  | k + 1, n, size, ks, pl, h => by
    show (if 4096 < size + 4 then AR.bad (n + 1) 94 else pass1 (List.replicate k nopK ++ ks) (n + 1) (size + 4) pl) = _
    rw [if_neg (by omega)]
    rw [show n + (k + 1) = n + 1 + k by omega, show size + 4 * (k + 1) = size + 4 + 4 * k by omega]
    exact pass1_nops k (n + 1) (size + 4) ks pl (by omega)
theorem encL_nop : encL ⟨0, 0, 0, 0⟩ = [0, 0, 0, 0] := by decide
theorem pass2_nops : ∀ (k n : Nat) (out : List UInt8) (ks : List LK) (pl : Pl), pass2 (List.replicate k nopK ++ ks) n out pl = pass2 ks (n + k) (out ++ List.replicate (4 * k) 0) pl
  | 0, n, out, ks, pl => by simp
  | k + 1, n, out, ks, pl => by
    show pass2 (List.replicate k nopK ++ ks) (n + 1) (out ++ encL ⟨0, 0, 0, 0⟩) pl = _
    rw [show n + (k + 1) = n + 1 + k by omega, encL_nop, pass2_nops k (n + 1) (out ++ [0, 0, 0, 0]) ks pl, List.append_assoc]
    congr 2
/-- THE LAW OF MOVES. -/
theorem asm_moves {ks : List LK} {k : Nat} (hk : k ≤ 900) :
    (∃ m, asmK (List.replicate k nopK ++ ks) = .bad m 94 ∧ 0 < m) ∨ asmK (List.replicate k nopK ++ ks) = mapAR (List.replicate (4 * k) 0 ++ ·) k (asmK ks) := by
  unfold asmK
  rw [pass1_nops k 0 0 ks [] (by omega)]
  have h := pass1_sh k (4 * k) ks 0 0 []
  rcases h with ⟨m, h1, h2⟩ | ⟨h1, h2⟩
  · left
    have h1' : pass1 ks (0 + k) (0 + 4 * k) [] = .bad m 94 := h1
    rw [h1']
    exact ⟨m, rfl, by omega⟩
  · right
    have e0 : pass1 ks (0 + k) (0 + 4 * k) [] = pass1 ks (0 + k) (0 + 4 * k) (shP (4 * k) []) := rfl
    rw [e0]
    cases hp : pass1 ks 0 0 [] with
    | bad m e => rw [h1 m e hp]; rfl
    | fine r =>
      obtain ⟨s, q⟩ := r
      rw [h2 s q hp]
      show pass2 (List.replicate k nopK ++ ks) 0 [] (shP (4 * k) q) = _
      rw [pass2_nops k 0 [] ks, List.nil_append]
      have := pass2_sh k (List.replicate (4 * k) 0) ks 0 [] q
      rw [List.length_replicate, List.append_nil] at this
      exact this
end Go.Proofs.YtbmaecdlkchkeaaGreatDoor
namespace Go.Proofs.YtbmaecdlkchkeaaGreatDoor
set_option linter.unusedVariables false
set_option linter.unusedSimpArgs false
theorem splitC_two (c : UInt8) : ∀ (a b : List UInt8), splitC c (a ++ c :: b) = splitC c a ++ splitC c b
  | [], b => by
    show splitC c (c :: b) = [[]] ++ splitC c b
    rw [splitC, if_pos rfl]
    rfl
  | x :: a, b => by
    have ih := splitC_two c a b
    show splitC c (x :: (a ++ c :: b)) = splitC c (x :: a) ++ splitC c b
    by_cases hx : x = c
    · rw [splitC, if_pos hx, ih, splitC, if_pos hx]
      rfl
    · rw [splitC, if_neg hx, ih, splitC, if_neg hx]
      obtain ⟨h, t, e, -⟩ := splitC_join c a
      rw [e]
      rfl
/-- So many lines of nothing to do. -/
def linesB : Nat → List UInt8
  | 0 => []
  | k + 1 => [110, 111, 112, 10] ++ linesB k
theorem linesB_len (k : Nat) : (linesB k).length = 4 * k := by
  induction k with
  | zero => rfl
  | succ k ih =>
    show ([110, 111, 112, 10] ++ linesB k).length = _
    rw [List.length_append, ih]
    show 4 + 4 * k = _
    omega
theorem linesB_snoc (k : Nat) : linesB (k + 1) = linesB k ++ [110, 111, 112, 10] := by
  induction k with
  | zero => rfl
  | succ k ih =>
    show [110, 111, 112, 10] ++ linesB (k + 1) = ([110, 111, 112, 10] ++ linesB k) ++ [110, 111, 112, 10]
    rw [ih, List.append_assoc]
theorem splitC_lines (t : List UInt8) : ∀ k, splitC 10 (linesB k ++ t) = List.replicate k [110, 111, 112] ++ splitC 10 t
  | 0 => rfl
  | k + 1 => by
    show splitC 10 ([110, 111, 112] ++ 10 :: (linesB k ++ t)) = _
    rw [splitC_two, splitC_lines t k]
    rfl
theorem lineK_nop : lineK [110, 111, 112] = nopK := by
  have h : readG numP (fun _ => numP) true [110, 111, 112] = some (⟨0, 0, 0, 0⟩, []) := (readG_iff numP_ok).2 ⟨0, by decide, rfl, by decide, rfl, .inl rfl⟩
  unfold lineK
  rw [if_neg (by decide), if_neg (by decide), h]
  rfl
theorem told_bad (n : Nat) (e : Int) : told (.bad n e) = ([], n, e) := rfl
/-- What IsaMoves asks. -/
def MovesOk (k : Nat) (text : List UInt8) (r s : List UInt8 × Nat × Int) : Prop :=
  if r.2.2 = 94 ∨ s.2.2 = 94 then s.2.2 = 94 ∧ s.1 = [] ∧ (32768 < text.length + 4 * k ∨ 0 < s.2.1)
  else if r.2.2 ≠ 0 then r.2.2 = s.2.2 ∧ s.2.1 = r.2.1 + k ∧ r.1 = [] ∧ s.1 = []
  else s.2.2 = 0 ∧ r.2.1 = 0 ∧ s.2.1 = 0 ∧ s.1 = List.replicate (4 * k) 0 ++ r.1
theorem asmK_bad {ks : List LK} {m : Nat} {e : Int} (h : asmK ks = .bad m e) : 0 < m ∧ (e = 92 ∨ e = 93 ∨ e = 94) := by
  unfold asmK at h
  split at h
  · next n e' hp =>
    injection h with h1 h2
    subst h1; subst h2
    exact pass1_bad _ _ _ _ _ _ hp
  · have := pass2_bad _ _ _ _ _ _ h
    exact ⟨this.1, .inr (.inl this.2)⟩
theorem moves_law {k : Nat} (hk : k ≤ 900) (text : List UInt8) : MovesOk k text (asm text) (asm (linesB k ++ text)) := by
  unfold MovesOk
  have hl : (linesB k ++ text).length = text.length + 4 * k := by rw [List.length_append, linesB_len]; omega
  by_cases h1 : 32768 < text.length + 4 * k
  · have e1 : asm (linesB k ++ text) = ([], 0, 94) := by unfold asm; rw [if_pos (by omega)]
    rw [e1, if_pos (.inr rfl)]
    exact ⟨rfl, rfl, .inl h1⟩
  · have e1 : asm (linesB k ++ text) = told (asmK (List.replicate k nopK ++ (splitC 10 text).map lineK)) := by
      unfold asm
      rw [if_neg (by omega), splitC_lines, List.map_append, List.map_replicate, lineK_nop]
    have e2 : asm text = told (asmK ((splitC 10 text).map lineK)) := by
      unfold asm
      rw [if_neg (by omega)]
    rw [e1, e2]
    rcases asm_moves (ks := (splitC 10 text).map lineK) hk with ⟨m, h2, h3⟩ | h2
    · rw [h2, told_bad, if_pos (.inr rfl)]
      exact ⟨rfl, rfl, .inr h3⟩
    · rw [h2]
      cases hr : asmK ((splitC 10 text).map lineK) with
      | bad n e =>
        obtain ⟨hn, he⟩ := asmK_bad hr
        show if e = 94 ∨ e = 94 then _ else _
        by_cases h94 : e = 94
        · rw [if_pos (.inl h94)]
          exact ⟨h94, rfl, .inr (by show 0 < n + k; omega)⟩
        · rw [if_neg (by rintro (h | h) <;> exact h94 h)]
          show if e ≠ 0 then _ else _
          rw [if_pos (by omega)]
          exact ⟨rfl, rfl, rfl, rfl⟩
      | fine out =>
        show if (0 : Int) = 94 ∨ (0 : Int) = 94 then _ else _
        rw [if_neg (by decide)]
        show if (0 : Int) ≠ 0 then _ else _
        rw [if_neg (by decide)]
        exact ⟨rfl, rfl, rfl, rfl⟩
/-! One behind the other. -/
theorem pass1_app : ∀ (ks js : List LK) (n size : Nat) (pl : Pl), pass1 (ks ++ js) n size pl = match pass1 ks n size pl with | .bad m e => .bad m e | .fine (s, q) => pass1 js (n + ks.length) s q
  | [], js, n, size, pl => rfl
  | k :: ks, js, n, size, pl => by
    have ih := fun a b c => pass1_app ks js a b c
    have el : ∀ x : Nat, x + 1 + ks.length = x + (k :: ks).length := fun x => by rw [List.length_cons]; omega
    cases k with
    | blank =>
      show pass1 (ks ++ js) (n + 1) size pl = _
      rw [ih, ← el n]
      rfl
    | lab l =>
      show (if (findP pl l).isSome then AR.bad (n + 1) 93 else pass1 (ks ++ js) (n + 1) size ((l, size) :: pl)) = match (if (findP pl l).isSome then AR.bad (n + 1) 93 else pass1 ks (n + 1) size ((l, size) :: pl)) with | .bad m e => _ | .fine (s, q) => _
      split
      · rfl
      · rw [ih, ← el n]
    | ins i to =>
      show (if 4096 < size + 4 then AR.bad (n + 1) 94 else pass1 (ks ++ js) (n + 1) (size + 4) pl) = match (if 4096 < size + 4 then AR.bad (n + 1) 94 else pass1 ks (n + 1) (size + 4) pl) with | .bad m e => _ | .fine (s, q) => _
      split
      · rfl
      · rw [ih, ← el n]
    | wrd w =>
      show (if 4096 < size + 4 then AR.bad (n + 1) 94 else pass1 (ks ++ js) (n + 1) (size + 4) pl) = match (if 4096 < size + 4 then AR.bad (n + 1) 94 else pass1 ks (n + 1) (size + 4) pl) with | .bad m e => _ | .fine (s, q) => _
      split
      · rfl
      · rw [ih, ← el n]
    | bad => rfl
theorem pass2_ins (i : In) (to : List UInt8) (ks : List LK) (n : Nat) (out : List UInt8) (pl : Pl) : pass2 (.ins i to :: ks) n out pl = if to = [] then pass2 ks (n + 1) (out ++ encL i) pl
    else match findP pl to with
      | none => .bad (n + 1) 93
      | some at_ => if okL { i with m := way at_ out.length } i.op.toNat then pass2 ks (n + 1) (out ++ encL { i with m := way at_ out.length }) pl else .bad (n + 1) 93 := rfl
theorem pass2_app : ∀ (ks js : List LK) (n : Nat) (out : List UInt8) (pl : Pl), pass2 (ks ++ js) n out pl = match pass2 ks n out pl with | .bad m e => .bad m e | .fine o => pass2 js (n + ks.length) o pl
  | [], js, n, out, pl => rfl
  | k :: ks, js, n, out, pl => by
    have ih := fun a b c => pass2_app ks js a b c
    have el : ∀ x : Nat, x + 1 + ks.length = x + (k :: ks).length := fun x => by rw [List.length_cons]; omega
    cases k with
    | blank =>
      show pass2 (ks ++ js) (n + 1) out pl = _
      rw [ih, ← el n]
      rfl
    | lab l =>
      show pass2 (ks ++ js) (n + 1) out pl = _
      rw [ih, ← el n]
      rfl
    | bad =>
      show pass2 (ks ++ js) (n + 1) out pl = _
      rw [ih, ← el n]
      rfl
    | wrd w =>
      show pass2 (ks ++ js) (n + 1) (out ++ fourB w) pl = _
      rw [ih, ← el n]
      rfl
    | ins i to =>
      rw [← el n]
      show pass2 (.ins i to :: (ks ++ js)) n out pl = _
      rw [pass2_ins, pass2_ins]
      split
      · exact ih _ _ _
      · split
        · rfl
        · split
          · exact ih _ _ _
          · rfl
/-- Where more places are known, each as it was. -/
theorem pass2_ext {pl P : Pl} (hx : ∀ l a, findP pl l = some a → findP P l = some a) : ∀ (ks : List LK) (n : Nat) (out z : List UInt8), pass2 ks n out pl = .fine z → pass2 ks n out P = .fine z
  | [], n, out, z, h => h
  | k :: ks, n, out, z, h => by
    cases k with
    | blank => exact pass2_ext hx ks (n + 1) out z h
    | lab l => exact pass2_ext hx ks (n + 1) out z h
    | bad => exact pass2_ext hx ks (n + 1) out z h
    | wrd w => exact pass2_ext hx ks (n + 1) _ z h
    | ins i to =>
      unfold pass2 at h ⊢
      split at h
      · next ht =>
        rw [if_pos ht]
        exact pass2_ext hx ks (n + 1) _ z h
      · next ht =>
        rw [if_neg ht]
        split at h
        · cases h
        · next a ha =>
          rw [hx _ _ ha]
          simp only
          split at h
          · next ho =>
            rw [if_pos ho]
            exact pass2_ext hx ks (n + 1) _ z h
          · cases h
/-- As many bytes as were reckoned. -/
theorem pass_len {P : Pl} : ∀ (ks : List LK) (n m size s : Nat) (pl q : Pl) (out z : List UInt8), pass1 ks n size pl = .fine (s, q) → pass2 ks m out P = .fine z → z.length + size = out.length + s
  | [], n, m, size, s, pl, q, out, z, h1, h2 => by
    injection h1 with h1
    injection h1 with h1 _
    injection h2 with h2
    subst h1; subst h2
    rfl
  | k :: ks, n, m, size, s, pl, q, out, z, h1, h2 => by
    cases k with
    | blank => exact pass_len ks (n + 1) (m + 1) size s pl q out z h1 h2
    | lab l =>
      unfold pass1 at h1
      split at h1
      · cases h1
      · exact pass_len ks (n + 1) (m + 1) size s _ q out z h1 h2
    | bad =>
      unfold pass1 at h1
      cases h1
    | wrd w =>
      unfold pass1 at h1
      split at h1
      · cases h1
      · have := pass_len ks (n + 1) (m + 1) (size + 4) s pl q (out ++ fourB w) z h1 h2
        rw [List.length_append, fourB_len] at this
        omega
    | ins i to =>
      unfold pass1 at h1
      split at h1
      · cases h1
      · unfold pass2 at h2
        split at h2
        · have := pass_len ks (n + 1) (m + 1) (size + 4) s pl q _ z h1 h2
          rw [List.length_append, encL_len] at this
          omega
        · split at h2
          · cases h2
          · split at h2
            · have := pass_len ks (n + 1) (m + 1) (size + 4) s pl q _ z h1 h2
              rw [List.length_append, encL_len] at this
              omega
            · cases h2
theorem pass1_grows : ∀ (ks : List LK) (n size s : Nat) (pl q : Pl), pass1 ks n size pl = .fine (s, q) → size ≤ s
  | [], n, size, s, pl, q, h => by
    injection h with h
    injection h with h _
    omega
  | k :: ks, n, size, s, pl, q, h => by
    cases k with
    | blank => exact pass1_grows ks (n + 1) size s pl q h
    | lab l =>
      unfold pass1 at h
      split at h
      · cases h
      · exact pass1_grows ks (n + 1) size s _ q h
    | bad => unfold pass1 at h; cases h
    | ins i to =>
      unfold pass1 at h
      split at h
      · cases h
      · have := pass1_grows ks (n + 1) (size + 4) s pl q h
        omega
    | wrd w =>
      unfold pass1 at h
      split at h
      · cases h
      · have := pass1_grows ks (n + 1) (size + 4) s pl q h
        omega
theorem findP_app (p q : Pl) (l : List UInt8) : findP (p ++ q) l = match findP p l with | some a => some a | none => findP q l := by
  unfold findP
  rw [List.find?_append]
  cases (p.find? fun x => x.1 == l) <;> rfl
theorem findP_cons (l : List UInt8) (a : Nat) (pl : Pl) (l' : List UInt8) : findP ((l, a) :: pl) l' = if l = l' then some a else findP pl l' := by
  unfold findP
  rw [List.find?_cons]
  by_cases h : l = l'
  · rw [if_pos h, beq_iff_eq.2 h]
    rfl
  · rw [if_neg h, beq_eq_false_iff_ne.2 h]
/-- The first pass behind another program. -/
theorem pass1_join (k d : Nat) (Q : Pl) : ∀ (ks : List LK) (n size s : Nat) (pl q : Pl), pass1 ks n size pl = .fine (s, q) →
    (∃ m, pass1 ks (n + k) (size + d) (shP d pl ++ Q) = .bad m 94 ∧ 4096 < s + d ∧ 0 < m) ∨ (∃ m, pass1 ks (n + k) (size + d) (shP d pl ++ Q) = .bad m 93 ∧ 0 < m) ∨
      (pass1 ks (n + k) (size + d) (shP d pl ++ Q) = .fine (s + d, shP d q ++ Q) ∧ ∀ l, (findP q l).isSome = true → (findP pl l).isSome = true ∨ findP Q l = none)
  | [], n, size, s, pl, q, h => by
    injection h with h
    injection h with h1 h2
    subst h1; subst h2
    exact .inr (.inr ⟨rfl, fun l hl => .inl hl⟩)
  | x :: ks, n, size, s, pl, q, h => by
    have e1 : n + k + 1 = n + 1 + k := by omega
    cases x with
    | blank =>
      have := pass1_join k d Q ks (n + 1) size s pl q h
      show (∃ m, pass1 ks (n + k + 1) (size + d) _ = _ ∧ _) ∨ (∃ m, pass1 ks (n + k + 1) (size + d) _ = _ ∧ _) ∨ (pass1 ks (n + k + 1) (size + d) _ = _ ∧ _)
      rw [e1]
      exact this
    | lab l =>
      unfold pass1 at h ⊢
      split at h
      · cases h
      · next hf =>
        have hn : findP pl l = none := by simpa using hf
        have hsh : findP (shP d pl ++ Q) l = findP Q l := by rw [findP_app, findP_sh, hn]; rfl
        rw [hsh]
        by_cases hq : (findP Q l).isSome = true
        · rw [if_pos hq]
          exact .inr (.inl ⟨_, rfl, by omega⟩)
        · rw [if_neg hq, e1]
          have hq' : findP Q l = none := by simpa using hq
          rcases pass1_join k d Q ks (n + 1) size s ((l, size) :: pl) q h with h1 | h1 | ⟨h1, h2⟩
          · exact .inl h1
          · exact .inr (.inl h1)
          · refine .inr (.inr ⟨h1, fun l' hl' => ?_⟩)
            rcases h2 l' hl' with h3 | h3
            · rw [findP_cons] at h3
              by_cases hll : l = l'
              · subst hll
                exact .inr hq'
              · rw [if_neg hll] at h3
                exact .inl h3
            · exact .inr h3
    | ins i to =>
      unfold pass1 at h ⊢
      split at h
      · cases h
      · by_cases h1 : 4096 < size + d + 4
        · rw [if_pos h1]
          have := pass1_grows _ _ _ _ _ _ h
          exact .inl ⟨_, rfl, by omega, by omega⟩
        · rw [if_neg h1, e1, show size + d + 4 = size + 4 + d by omega]
          exact pass1_join k d Q ks (n + 1) (size + 4) s pl q h
    | wrd w =>
      unfold pass1 at h ⊢
      split at h
      · cases h
      · by_cases h1 : 4096 < size + d + 4
        · rw [if_pos h1]
          have := pass1_grows _ _ _ _ _ _ h
          exact .inl ⟨_, rfl, by omega, by omega⟩
        · rw [if_neg h1, e1, show size + d + 4 = size + 4 + d by omega]
          exact pass1_join k d Q ks (n + 1) (size + 4) s pl q h
    | bad => unfold pass1 at h; cases h
theorem asmK_fine {ks : List LK} {x : List UInt8} (h : asmK ks = .fine x) : ∃ q, pass1 ks 0 0 [] = .fine (x.length, q) ∧ pass2 ks 0 [] q = .fine x := by
  unfold asmK at h
  split at h
  · cases h
  · next s q hp =>
    have := pass_len ks 0 0 0 s [] q [] x hp h
    have hs : s = x.length := by simp at this; omega
    subst hs
    exact ⟨q, hp, h⟩
/-- THE LAW OF JOINS. -/
theorem asm_joins {ks js : List LK} {x y : List UInt8} (hx : asmK ks = .fine x) (hy : asmK js = .fine y) :
    (∃ m, asmK (ks ++ js) = .bad m 94 ∧ 4096 < x.length + y.length ∧ 0 < m) ∨ (∃ m, asmK (ks ++ js) = .bad m 93 ∧ 0 < m) ∨ asmK (ks ++ js) = .fine (x ++ y) := by
  obtain ⟨q1, h1, h2⟩ := asmK_fine hx
  obtain ⟨q2, h3, h4⟩ := asmK_fine hy
  have hj := pass1_join ks.length x.length q1 js 0 0 y.length [] q2 h3
  have e0 : pass1 (ks ++ js) 0 0 [] = pass1 js (0 + ks.length) (0 + x.length) (shP x.length [] ++ q1) := by
    rw [pass1_app, h1]
    show pass1 js (0 + ks.length) x.length q1 = _
    rw [Nat.zero_add x.length]
    rfl
  unfold asmK
  rw [e0]
  rcases hj with ⟨m, h5, h6, h7⟩ | ⟨m, h5, h6⟩ | ⟨h5, h6⟩
  · rw [h5]
    exact .inl ⟨m, rfl, by omega, h7⟩
  · rw [h5]
    exact .inr (.inl ⟨m, rfl, h6⟩)
  · rw [h5]
    right; right
    have hdis : ∀ l a, findP q1 l = some a → findP q2 l = none := fun l a ha => by
      cases hq : findP q2 l with
      | none => rfl
      | some b =>
        rcases h6 l (by rw [hq]; rfl) with h7 | h7
        · cases h7
        · rw [ha] at h7; cases h7
    have p1 : pass2 ks 0 [] (shP x.length q2 ++ q1) = .fine x := pass2_ext (fun l a ha => by rw [findP_app, findP_sh, hdis l a ha]; exact ha) ks 0 [] x h2
    have p2 : pass2 js (0 + ks.length) (x ++ []) (shP x.length q2) = .fine (x ++ y) := by
      rw [pass2_sh, h4]
      rfl
    rw [List.append_nil] at p2
    have p3 := pass2_ext (P := shP x.length q2 ++ q1) (fun l a ha => by rw [findP_app, ha]) js _ _ _ p2
    show pass2 (ks ++ js) 0 [] (shP x.length q2 ++ q1) = _
    rw [pass2_app, p1]
    exact p3
/-- What IsaJoins asks of two programs that are. -/
theorem joins_law (a b : List UInt8) (x y : List UInt8) (ha : asm a = (x, 0, 0)) (hb : asm b = (y, 0, 0)) :
    let r := asm (a ++ 10 :: b)
    (r.2.2 ≠ 0 → r.1 = [] ∧ ((r.2.2 = 93 ∧ 0 < r.2.1) ∨ (r.2.2 = 94 ∧ (4096 < x.length + y.length ∨ 32768 < a.length + b.length + 1)))) ∧ (r.2.2 = 0 → r.1 = x ++ y ∧ r.2.1 = 0) := by
  have key : ∀ {t z : List UInt8}, asm t = (z, 0, 0) → asmK ((splitC 10 t).map lineK) = .fine z := fun {t z} h => by
    unfold asm at h
    split at h
    · injection h with _ h
      injection h with _ h
      exact absurd h (by decide)
    · cases hr : asmK ((splitC 10 t).map lineK) with
      | bad n e =>
        rw [hr] at h
        injection h with _ h
        injection h with h1 h2
        have := (asmK_bad hr).1
        omega
      | fine o =>
        rw [hr] at h
        injection h with h _
        rw [h]
  intro r
  have hlen : (a ++ 10 :: b).length = a.length + b.length + 1 := by simp; omega
  by_cases h1 : 32768 < a.length + b.length + 1
  · have e : r = ([], 0, 94) := by show asm _ = _; unfold asm; rw [if_pos (by omega)]
    rw [e]
    exact ⟨fun _ => ⟨rfl, .inr ⟨rfl, .inr h1⟩⟩, fun h => absurd h (by decide)⟩
  · have e : r = told (asmK ((splitC 10 a).map lineK ++ (splitC 10 b).map lineK)) := by
      show asm _ = _
      unfold asm
      rw [if_neg (by omega), splitC_two, List.map_append]
    rw [e]
    rcases asm_joins (key ha) (key hb) with ⟨m, h2, h3, h4⟩ | ⟨m, h2, h3⟩ | h2
    · rw [h2]
      exact ⟨fun _ => ⟨rfl, .inr ⟨rfl, .inl h3⟩⟩, fun h => absurd (show (94 : Int) = 0 from h) (by decide)⟩
    · rw [h2]
      exact ⟨fun _ => ⟨rfl, .inl ⟨rfl, h3⟩⟩, fun h => absurd (show (93 : Int) = 0 from h) (by decide)⟩
    · rw [h2]
      exact ⟨fun h => absurd rfl h, fun _ => ⟨rfl, rfl⟩⟩
end Go.Proofs.YtbmaecdlkchkeaaGreatDoor
namespace Go.Proofs.YtbmaecdlkchkeaaGreatDoor
set_option linter.unusedVariables false
set_option linter.unusedSimpArgs false
/-- Four bytes. -/
structure W4 where
  a : UInt8
  b : UInt8
  c : UInt8
  d : UInt8
def W4.l (w : W4) : List UInt8 := [w.a, w.b, w.c, w.d]
def W4.n (w : W4) : Nat := w.a.toNat * 16777216 + w.b.toNat * 65536 + w.c.toNat * 256 + w.d.toNat
def W4.lo (w : W4) : Nat := w.c.toNat * 256 + w.d.toNat
/-- The instruction that four bytes say. -/
def mkL (w : W4) : In := ⟨w.a.toNat, (w.b.toNat / 16 : Nat), (w.b.toNat % 16 : Nat), if (fmL w.a.toNat).contains 115 = true ∧ 32768 ≤ w.lo then (w.lo : Int) - 65536 else w.lo⟩
def decL (w : W4) : Option In := if w.a.toNat < 30 ∧ okL (mkL w) w.a.toNat = true then some (mkL w) else none
theorem byte_toNat (b : UInt8) : byte b.toNat = b := by
  apply UInt8.toNat_inj.1
  unfold byte
  rw [UInt8.toNat_ofNat']
  have := b.toNat_lt
  omega
theorem byte_nat (n : Nat) : (byte n).toNat = n % 256 := by
  unfold byte
  rw [UInt8.toNat_ofNat']
  omega
theorem byte_of {n : Nat} {b : UInt8} (h : n % 256 = b.toNat) : byte n = b := by
  apply UInt8.toNat_inj.1
  rw [byte_nat, h]
/-- Bytes that are one have no other form. -/
theorem enc_mk (w : W4) : encL (mkL w) = w.l := by
  have ha := w.a.toNat_lt
  have hb := w.b.toNat_lt
  have hc := w.c.toNat_lt
  have hd := w.d.toNat_lt
  have hm : ((mkL w).m % 65536).toNat = w.lo := by
    have h6 : w.lo < 65536 := by unfold W4.lo; omega
    have e : (mkL w).m = if (fmL w.a.toNat).contains 115 = true ∧ 32768 ≤ w.lo then (w.lo : Int) - 65536 else w.lo := rfl
    rw [e]
    generalize w.lo = x at h6 ⊢
    split
    · have : ((x : Int) - 65536) % 65536 = x := by omega
      rw [this]
      omega
    · have : (x : Int) % 65536 = x := by omega
      rw [this]
      omega
  unfold encL W4.l
  rw [hm]
  have e1 : byte (mkL w).op.toNat = w.a := byte_of (by show ((w.a.toNat : Int).toNat) % 256 = _; omega)
  have e2 : byte (16 * (mkL w).a + (mkL w).b).toNat = w.b := byte_of (by
    show (16 * ((w.b.toNat / 16 : Nat) : Int) + ((w.b.toNat % 16 : Nat) : Int)).toNat % 256 = _
    omega)
  have e3 : byte (w.lo / 256) = w.c := byte_of (by unfold W4.lo; omega)
  have e4 : byte w.lo = w.d := byte_of (by unfold W4.lo; omega)
  rw [e1, e2, e3, e4]
def encW (i : In) : W4 := ⟨byte i.op.toNat, byte (16 * i.a + i.b).toNat, byte ((i.m % 65536).toNat / 256), byte (i.m % 65536).toNat⟩
theorem encW_l (i : In) : (encW i).l = encL i := rfl
theorem ok_bounds {i : In} {k : Nat} (hk : k < 30) (h : okL i k = true) : (0 ≤ i.a ∧ i.a ≤ 15) ∧ (0 ≤ i.b ∧ i.b ≤ 15) ∧ (if (fmL k).contains 115 = true then -32768 ≤ i.m ∧ i.m ≤ 32767 else 0 ≤ i.m ∧ i.m ≤ 65535) := by
  refine ⟨?_, ?_, ?_⟩
  · cases hc : (fmL k).contains 97 with
    | true => exact ok_a h hc
    | false => rw [ok_na h hc]; decide
  · cases hc : (fmL k).contains 98 with
    | true => exact ok_b h hc
    | false => rw [ok_nb h hc]; decide
  · cases hs : (fmL k).contains 115 with
    | true => rw [if_pos rfl]; exact ok_s h hs
    | false =>
      rw [if_neg (by decide)]
      cases hu : (fmL k).contains 117 with
      | true => exact ok_u h hu hs
      | false => rw [ok_nm h hu hs]; decide
/-- An instruction is read from its bytes as what it was. -/
theorem dec_enc {i : In} {k : Nat} (hk : k < 30) (hop : i.op = (k : Int)) (h : okL i k = true) : decL (encW i) = some i := by
  obtain ⟨⟨a0, a1⟩, ⟨b0, b1⟩, hm⟩ := ok_bounds hk h
  have e0 : (encW i).a.toNat = k := by
    show (byte i.op.toNat).toNat = k
    rw [byte_nat, hop]
    omega
  have e1 : (encW i).b.toNat = (16 * i.a + i.b).toNat := by
    show (byte _).toNat = _
    rw [byte_nat]
    omega
  have e2 : (encW i).lo = (i.m % 65536).toNat := by
    unfold W4.lo
    show (byte _).toNat * 256 + (byte _).toNat = _
    rw [byte_nat, byte_nat]
    omega
  have hmk : mkL (encW i) = i := by
    unfold mkL
    rw [e0, e1, e2]
    obtain ⟨op, a, b, m⟩ := i
    simp only at *
    subst hop
    congr 1
    · omega
    · omega
    · cases hs : (fmL k).contains 115 with
      | true =>
        rw [hs, if_pos rfl] at hm
        split
        · next hc => omega
        · next hc =>
          have : ¬ 32768 ≤ (m % 65536).toNat := fun hh => hc ⟨rfl, hh⟩
          omega
      | false =>
        rw [hs, if_neg (by decide)] at hm
        rw [if_neg (by rintro ⟨hh, -⟩; cases hh)]
        omega
  unfold decL
  rw [hmk, e0, if_pos ⟨hk, h⟩]
/-- A line of a listing. -/
def lineOf (w : W4) : List UInt8 := match decL w with | some i => textL i [] i.op.toNat | none => [119, 111, 114, 100, 32] ++ Lib.decDigits w.n
def kindOf (w : W4) : LK := match decL w with | some i => .ins i [] | none => .wrd w.n
theorem decL_some {w : W4} {i : In} (h : decL w = some i) : ∃ k : Nat, k < 30 ∧ i.op = (k : Int) ∧ okL i k = true ∧ encL i = w.l := by
  unfold decL at h
  split at h
  · next hc =>
    injection h with h
    subst h
    exact ⟨w.a.toNat, hc.1, rfl, hc.2, enc_mk w⟩
  · cases h
theorem nm_byte {k : Nat} (hk : k < 30) : ∀ b ∈ nmL k, isLd b = true := by
  have h : ∀ k : Fin 30, ∀ b ∈ nmL k.val, isLd b = true := by decide +kernel
  exact h ⟨k, hk⟩
theorem nm_ne {k : Nat} (hk : k < 30) : nmL k ≠ [] := by
  have h : ∀ k : Fin 30, nmL k.val ≠ [] := by decide +kernel
  exact h ⟨k, hk⟩
/-- Which bytes a text has. -/
theorem text_byte {i : In} {to : List UInt8} {k : Nat} (hk : k < 30) (ht : to = [] ∨ isLab to = true) : ∀ b ∈ textL i to k, isLd b = true ∨ b.toNat = 32 ∨ b.toNat = 45 ∨ b.toNat = 64 := by
  have hi : ∀ n, ∀ b ∈ Lib.itoa n, isLd b = true ∨ b.toNat = 32 ∨ b.toNat = 45 ∨ b.toNat = 64 := fun n b hb => by
    rcases itoa_byte b hb with h | h
    · exact .inr (.inr (.inl h))
    · left
      unfold isLd
      rw [Bool.or_eq_true]
      right
      simpa [isDig] using h
  intro b hb
  unfold textL at hb
  rcases List.mem_append.1 hb with hb | hb
  · exact .inl (nm_byte hk b hb)
  · obtain ⟨x, hx, hb⟩ := List.mem_flatMap.1 hb
    obtain ⟨c, -, rfl⟩ := List.mem_map.1 hx
    rcases List.mem_cons.1 hb with rfl | hb
    · exact .inr (.inl rfl)
    · unfold fieldT at hb
      split at hb
      · rcases List.mem_cons.1 hb with rfl | hb
        · exact .inl (by decide)
        · exact hi _ b hb
      · split at hb
        · rcases List.mem_cons.1 hb with rfl | hb
          · exact .inl (by decide)
          · exact hi _ b hb
        · split at hb
          · next hne =>
            rcases List.mem_cons.1 hb with rfl | hb
            · exact .inr (.inr (.inr rfl))
            · rcases ht with rfl | ht
              · exact absurd rfl hne
              · exact .inl (lab_byte ht b hb)
          · exact hi _ b hb
theorem text_no {i : In} {to : List UInt8} {k : Nat} (hk : k < 30) (ht : to = [] ∨ isLab to = true) {c : UInt8} (hc : isLd c = false ∧ c.toNat ≠ 32 ∧ c.toNat ≠ 45 ∧ c.toNat ≠ 64) : c ∉ textL i to k := fun hm => by
  rcases text_byte hk ht c hm with h | h | h | h
  · rw [hc.1] at h; cases h
  · exact hc.2.1 h
  · exact hc.2.2.1 h
  · exact hc.2.2.2 h
/-- An instruction's line, with a label or without. -/
theorem lineK_text {i : In} {to : List UInt8} {k : Nat} (hk : k < 30) (hop : i.op = (k : Int)) (h : okL i k = true) (ht : to = [] ∨ (isLab to = true ∧ i.m = 0 ∧ (fmL k).contains 115 = true ∧ k ≠ 19)) : lineK (textL i to k) = .ins i to := by
  have ht' : to = [] ∨ isLab to = true := ht.imp_right fun h => h.1
  have hr : readG numP (fun _ => numP) true (textL i to k) = some (i, to) := (readG_iff numP_ok).2 ⟨k, hk, hop, h, rfl, ht.imp_right fun h => ⟨rfl, h⟩⟩
  have hne : textL i to k ≠ [] := by
    unfold textL
    intro he
    exact nm_ne hk (List.append_eq_nil_iff.1 he).1
  have h58 : (textL i to k).getLast? ≠ some 58 := fun he => text_no hk ht' (c := 58) (by decide) (List.mem_of_getLast? he)
  unfold lineK
  rw [if_neg hne, if_neg (fun hh => h58 hh.1), hr]
theorem word_split (l : List UInt8) (h : (32 : UInt8) ∉ l) : splitC 32 ([119, 111, 114, 100, 32] ++ l) = [[119, 111, 114, 100], l] := by
  show splitC 32 ([119, 111, 114, 100] ++ 32 :: l) = _
  rw [splitC_app (by decide), splitC_none h]
theorem dec_no {n : Nat} {c : UInt8} (h : ¬ isDig c) : c ∉ Lib.decDigits n := fun hm => h (decDigits_dig n c hm)
theorem lineK_word {n : Nat} (hn : n < 4294967296) : lineK ([119, 111, 114, 100, 32] ++ Lib.decDigits n) = .wrd n := by
  have hop : opOf [119, 111, 114, 100] = none := by decide +kernel
  have hr : readG numP (fun _ => numP) true ([119, 111, 114, 100, 32] ++ Lib.decDigits n) = none := by
    unfold readG
    rw [word_split _ (dec_no (by decide))]
    simp only
    rw [hop]
  have h58 : ([119, 111, 114, 100, 32] ++ Lib.decDigits n).getLast? ≠ some 58 := fun he => by
    rcases List.mem_append.1 (List.mem_of_getLast? he) with h | h
    · exact absurd h (by decide)
    · exact dec_no (c := 58) (by decide) h
  have hw : wordK ([119, 111, 114, 100, 32] ++ Lib.decDigits n) = some n := by
    unfold wordK
    rw [if_pos (show List.take 5 ([119, 111, 114, 100, 32] ++ Lib.decDigits n) = [119, 111, 114, 100, 32] from rfl)]
    show (match numP (Lib.decDigits n) with | some m => if 0 ≤ m ∧ m < 4294967296 then some m.toNat else none | none => none) = _
    rw [← itoa_nat, (numP_iff (by omega) (by omega)).2 rfl]
    simp only
    rw [if_pos (by omega)]
    rfl
  unfold lineK
  rw [if_neg (by simp), if_neg (fun hh => h58 hh.1), hr, hw]
theorem W4.n_lt (w : W4) : w.n < 4294967296 := by
  have ha := w.a.toNat_lt
  have hb := w.b.toNat_lt
  have hc := w.c.toNat_lt
  have hd := w.d.toNat_lt
  unfold W4.n
  omega
theorem fourB_n (w : W4) : fourB w.n = w.l := by
  have ha := w.a.toNat_lt
  have hb := w.b.toNat_lt
  have hc := w.c.toNat_lt
  have hd := w.d.toNat_lt
  unfold fourB W4.l
  rw [byte_of (b := w.a) (by unfold W4.n; omega), byte_of (b := w.b) (by unfold W4.n; omega), byte_of (b := w.c) (by unfold W4.n; omega), byte_of (b := w.d) (by unfold W4.n; omega)]
theorem lineK_of (w : W4) : lineK (lineOf w) = kindOf w := by
  unfold lineOf kindOf
  cases h : decL w with
  | some i =>
    obtain ⟨k, hk, hop, ho, -⟩ := decL_some h
    simp only
    rw [hop, Int.toNat_natCast]
    exact lineK_text hk hop ho (.inl rfl)
  | none => exact lineK_word w.n_lt
theorem line_no10 (w : W4) : (10 : UInt8) ∉ lineOf w := by
  unfold lineOf
  cases h : decL w with
  | some i =>
    obtain ⟨k, hk, hop, ho, -⟩ := decL_some h
    simp only
    rw [hop, Int.toNat_natCast]
    exact text_no hk (.inl rfl) (by decide)
  | none =>
    simp only [List.mem_append]
    rintro (h | h)
    · exact absurd h (by decide)
    · exact dec_no (by decide) h
/-! What is listed is assembled. -/
def rowsB (ws : List W4) : List UInt8 := ws.flatMap fun w => lineOf w ++ [10]
def bytesW (ws : List W4) : List UInt8 := ws.flatMap W4.l
theorem bytesW_len : ∀ ws : List W4, (bytesW ws).length = 4 * ws.length
  | [] => rfl
  | w :: ws => by
    show (w.l ++ bytesW ws).length = _
    rw [List.length_append, bytesW_len ws, List.length_cons]
    show 4 + _ = _
    omega
theorem splitC_rows : ∀ (ws : List W4) (t : List UInt8), splitC 10 (rowsB ws ++ t) = ws.map lineOf ++ splitC 10 t
  | [], t => rfl
  | w :: ws, t => by
    show splitC 10 (((lineOf w ++ [10]) ++ rowsB ws) ++ t) = _
    rw [show ((lineOf w ++ [10]) ++ rowsB ws) ++ t = lineOf w ++ 10 :: (rowsB ws ++ t) by simp, splitC_app (line_no10 w), splitC_rows ws t]
    rfl
theorem pass1_rows : ∀ (ws : List W4) (ks : List LK) (n size : Nat) (pl : Pl), size + 4 * ws.length ≤ 4096 → pass1 (ws.map kindOf ++ ks) n size pl = pass1 ks (n + ws.length) (size + 4 * ws.length) pl
  | [], ks, n, size, pl, _ => rfl
  | w :: ws, ks, n, size, pl, h => by
    rw [List.length_cons] at h ⊢
    have ih := pass1_rows ws ks (n + 1) (size + 4) pl (by omega)
    rw [show n + (ws.length + 1) = n + 1 + ws.length by omega, show size + 4 * (ws.length + 1) = size + 4 + 4 * ws.length by omega, ← ih]
    show pass1 (kindOf w :: (ws.map kindOf ++ ks)) n size pl = _
    unfold kindOf
    cases decL w with
    | some i =>
      show (if 4096 < size + 4 then AR.bad (n + 1) 94 else pass1 (ws.map kindOf ++ ks) (n + 1) (size + 4) pl) = _
      rw [if_neg (by omega)]
      rfl
    | none =>
      show (if 4096 < size + 4 then AR.bad (n + 1) 94 else pass1 (ws.map kindOf ++ ks) (n + 1) (size + 4) pl) = _
      rw [if_neg (by omega)]
      rfl
theorem pass2_rows : ∀ (ws : List W4) (ks : List LK) (n : Nat) (out : List UInt8) (pl : Pl), pass2 (ws.map kindOf ++ ks) n out pl = pass2 ks (n + ws.length) (out ++ bytesW ws) pl
  | [], ks, n, out, pl => by
    show pass2 ks n out pl = pass2 ks n (out ++ []) pl
    rw [List.append_nil]
  | w :: ws, ks, n, out, pl => by
    have ih := pass2_rows ws ks (n + 1) (out ++ w.l) pl
    rw [List.length_cons, show n + (ws.length + 1) = n + 1 + ws.length by omega]
    show pass2 (kindOf w :: (ws.map kindOf ++ ks)) n out pl = pass2 ks _ (out ++ (w.l ++ bytesW ws)) pl
    rw [← List.append_assoc, ← ih]
    unfold kindOf
    cases h : decL w with
    | some i =>
      obtain ⟨k, -, -, -, he⟩ := decL_some h
      show pass2 (ws.map kindOf ++ ks) (n + 1) (out ++ encL i) pl = _
      rw [he]
      rfl
    | none =>
      show pass2 (ws.map kindOf ++ ks) (n + 1) (out ++ fourB w.n) pl = _
      rw [fourB_n]
      rfl
/-- ROWS OF A LISTING, IN ANY ORDER, ARE THE PROGRAM IN THAT ORDER. -/
theorem asm_rows (ws : List W4) (h1 : 4 * ws.length ≤ 4096) (h2 : (rowsB ws).length ≤ 32768) : asm (rowsB ws) = (bytesW ws, 0, 0) := by
  have e := splitC_rows ws []
  rw [List.append_nil] at e
  have ek : (splitC 10 (rowsB ws)).map lineK = ws.map kindOf ++ [LK.blank] := by
    rw [e, List.map_append, List.map_map]
    congr 1
    apply List.map_congr_left
    intro w _
    exact lineK_of w
  unfold asm asmK
  rw [if_neg (by omega), ek, pass1_rows ws _ 0 0 [] (by omega)]
  show told (pass2 (ws.map kindOf ++ [LK.blank]) 0 [] []) = _
  rw [pass2_rows]
  rfl
end Go.Proofs.YtbmaecdlkchkeaaGreatDoor
namespace Go.Proofs.YtbmaecdlkchkeaaGreatDoor
set_option linter.unusedVariables false
set_option linter.unusedSimpArgs false
theorem itoa_len {n : Int} (h0 : -99999 ≤ n) (h1 : n ≤ 99999) : (Lib.itoa n).length ≤ 6 := by
  have e5 : (10 : Nat) ^ 5 = 100000 := by decide
  unfold Lib.itoa
  split
  · have := (decDigits_len (u := n.natAbs) (k := 5) (by omega)).2 (by omega)
    rw [List.length_cons]
    omega
  · have := (decDigits_len (u := n.toNat) (k := 5) (by omega)).2 (by omega)
    omega
theorem nm_len {k : Nat} (hk : k < 30) : (nmL k).length ≤ 5 := by
  have h : ∀ k : Fin 30, (nmL k.val).length ≤ 5 := by decide +kernel
  exact h ⟨k, hk⟩
theorem fm_len {k : Nat} (hk : k < 30) : (fmL k).length ≤ 3 := by
  have h : ∀ k : Fin 30, (fmL k.val).length ≤ 3 := by decide +kernel
  exact h ⟨k, hk⟩
theorem flat_len {l : List (List UInt8)} {B : Nat} (h : ∀ x ∈ l, x.length ≤ B) : (l.flatMap (32 :: ·)).length ≤ l.length * (B + 1) := by
  induction l with
  | nil => simp
  | cons x l ih =>
    rw [List.flatMap_cons, List.length_append, List.length_cons, List.length_cons, Nat.add_mul]
    have h1 := h x (by simp)
    have h2 := ih (fun y hy => h y (by simp [hy]))
    omega
theorem text_len {i : In} {k : Nat} (hk : k < 30) (h : okL i k = true) : (textL i [] k).length ≤ 29 := by
  obtain ⟨⟨a0, a1⟩, ⟨b0, b1⟩, hm⟩ := ok_bounds hk h
  have hm' : -99999 ≤ i.m ∧ i.m ≤ 99999 := by split at hm <;> omega
  have hf : ∀ c, (fieldT i [] c).length ≤ 7 := fun c => by
    unfold fieldT
    split
    · have := itoa_len (n := i.a) (by omega) (by omega)
      rw [List.length_cons]
      omega
    · split
      · have := itoa_len (n := i.b) (by omega) (by omega)
        rw [List.length_cons]
        omega
      · rw [if_neg (by simp)]
        have := itoa_len hm'.1 hm'.2
        omega
  unfold textL
  rw [List.length_append]
  have h1 := nm_len hk
  have h2 := fm_len hk
  have h3 := flat_len (l := (fmL k).map (fieldT i [])) (B := 7) (fun x hx => by
    obtain ⟨c, -, rfl⟩ := List.mem_map.1 hx
    exact hf c)
  rw [List.length_map] at h3
  have h4 : (fmL k).length * (7 + 1) ≤ 3 * 8 := Nat.mul_le_mul_right _ h2
  omega
theorem line_len (w : W4) : (lineOf w).length ≤ 29 := by
  unfold lineOf
  cases h : decL w with
  | some i =>
    obtain ⟨k, hk, hop, ho, -⟩ := decL_some h
    simp only
    rw [hop, Int.toNat_natCast]
    exact text_len hk ho
  | none =>
    have e10 : (10 : Nat) ^ 10 = 10000000000 := by decide
    have := (decDigits_len (u := w.n) (k := 10) (by omega)).2 (by have := w.n_lt; omega)
    simp only [List.length_append]
    show 5 + _ ≤ 29
    omega
theorem rows_len : ∀ ws : List W4, (rowsB ws).length ≤ 30 * ws.length
  | [] => Nat.le_refl _
  | w :: ws => by
    have h1 := rows_len ws
    have h2 := line_len w
    show ((lineOf w ++ [10]) ++ rowsB ws).length ≤ _
    simp only [List.length_append, List.length_cons, List.length_nil]
    omega
/-- A program's words. -/
def chunks : List UInt8 → List W4
  | a :: b :: c :: d :: r => ⟨a, b, c, d⟩ :: chunks r
  | _ => []
theorem chunks_bytes : ∀ (n : Nat) (p : List UInt8), p.length = 4 * n → bytesW (chunks p) = p ∧ (chunks p).length = n
  | 0, p, h => by
    have : p = [] := List.length_eq_zero_iff.1 (by omega)
    subst this
    exact ⟨rfl, rfl⟩
  | n + 1, p, h => by
    match p, h with
    | a :: b :: c :: d :: r, h =>
      have hr : r.length = 4 * n := by simp at h; omega
      obtain ⟨h1, h2⟩ := chunks_bytes n r hr
      refine ⟨?_, ?_⟩
      · show [a, b, c, d] ++ bytesW (chunks r) = _
        rw [h1]
        rfl
      · show (chunks r).length + 1 = n + 1
        rw [h2]
/-- A program's listing. -/
def listP (p : List UInt8) : List UInt8 × Int := if 4096 < p.length then ([], 94) else if p.length % 4 ≠ 0 then ([], 91) else (rowsB (chunks p), 0)
theorem list_back (p : List UInt8) (h : (listP p).2 = 0) : asm (listP p).1 = (p, 0, 0) := by
  unfold listP at h ⊢
  by_cases h1 : 4096 < p.length
  · rw [if_pos h1] at h
    exact absurd (show (94 : Int) = 0 from h) (by decide)
  · rw [if_neg h1] at h ⊢
    by_cases h2 : p.length % 4 ≠ 0
    · rw [if_pos h2] at h
      exact absurd (show (91 : Int) = 0 from h) (by decide)
    · rw [if_neg h2] at h ⊢
      obtain ⟨e1, e2⟩ := chunks_bytes (p.length / 4) p (by omega)
      have := rows_len (chunks p)
      show asm (rowsB (chunks p)) = _
      rw [asm_rows (chunks p) (by omega) (by omega), e1]
theorem list_no (p : List UInt8) (h : (listP p).2 ≠ 0) : (listP p).1 = [] ∧ ((4096 < p.length ∧ (listP p).2 = 94) ∨ (p.length % 4 ≠ 0 ∧ (listP p).2 = 91)) := by
  unfold listP at h ⊢
  by_cases h1 : 4096 < p.length
  · rw [if_pos h1]
    exact ⟨rfl, .inl ⟨h1, rfl⟩⟩
  · rw [if_neg h1] at h ⊢
    by_cases h2 : p.length % 4 ≠ 0
    · rw [if_pos h2]
      exact ⟨rfl, .inr ⟨h2, rfl⟩⟩
    · rw [if_neg h2] at h
      exact absurd rfl h
/-! Labels. -/
/-- An instruction that may be is its bytes' line. -/
theorem line_enc {i : In} {k : Nat} (hk : k < 30) (hop : i.op = (k : Int)) (h : okL i k = true) : lineOf (encW i) = textL i [] k := by
  unfold lineOf
  rw [dec_enc hk hop h]
  simp only
  rw [hop, Int.toNat_natCast]
theorem lab_line {l : List UInt8} (h : isLab l = true) : lineK (l ++ [58]) = .lab l := by
  unfold lineK
  rw [if_neg (by simp), if_pos ⟨by simp, by simpa using h⟩]
  simp
theorem lab_len {l : List UInt8} (h : isLab l = true) : l.length ≤ 12 ∧ l ≠ [] := by
  cases l with
  | nil => cases h
  | cons b r =>
    simp only [isLab, Bool.and_eq_true, decide_eq_true_eq] at h
    exact ⟨by rw [List.length_cons]; omega, by simp⟩
theorem findP_one (l : List UInt8) (a : Nat) : findP [(l, a)] l = some a := by
  rw [findP_cons, if_pos rfl]
def jumpT (l : List UInt8) : List UInt8 := [106, 117, 109, 112, 32, 64] ++ l
def someT (l : List UInt8) : List UInt8 := [115, 111, 109, 101, 32, 114, 51, 32, 64] ++ l
theorem jump_line {l : List UInt8} (h : isLab l = true) : lineK (jumpT l) = .ins ⟨24, 0, 0, 0⟩ l := by
  have e : jumpT l = textL ⟨24, 0, 0, 0⟩ l 24 := by
    have hne := (lab_len h).2
    show _ = nmL 24 ++ ([115].map (fieldT ⟨24, 0, 0, 0⟩ l)).flatMap (32 :: ·)
    simp [fieldT, hne, jumpT, nmL, nameL]
  rw [e]
  exact lineK_text (by omega) rfl (by decide) (.inr ⟨h, rfl, by decide, by decide⟩)
theorem some_line {l : List UInt8} (h : isLab l = true) : lineK (someT l) = .ins ⟨26, 3, 0, 0⟩ l := by
  have e : someT l = textL ⟨26, 3, 0, 0⟩ l 26 := by
    have hne := (lab_len h).2
    have h3 : Lib.itoa 3 = [51] := by
      unfold Lib.itoa
      rw [if_neg (by decide)]
      exact decDigits_small (by decide)
    show _ = nmL 26 ++ ([97, 115].map (fieldT ⟨26, 3, 0, 0⟩ l)).flatMap (32 :: ·)
    simp [fieldT, hne, someT, nmL, nameL, h3]
  rw [e]
  exact lineK_text (by omega) rfl (by decide) (.inr ⟨h, rfl, by decide, by decide⟩)
theorem ok_jump {m : Int} (h0 : -32768 ≤ m) (h1 : m ≤ 32767) : okL ⟨24, 0, 0, m⟩ 24 = true := by
  show (fitsL false 0 0 15 && fitsL false 0 0 15 && fitsL true m (-32768) 32767) = true
  simp [fitsL, h0, h1]
theorem ok_some {m : Int} (h0 : -32768 ≤ m) (h1 : m ≤ 32767) : okL ⟨26, 3, 0, m⟩ 26 = true := by
  show (fitsL true 3 0 15 && fitsL false 0 0 15 && fitsL true m (-32768) 32767) = true
  simp [fitsL, h0, h1]
/-- A jump over so many instructions. -/
theorem asm_over (ws : List W4) (hw : ws.length ≤ 1000) {l : List UInt8} (h : isLab l = true) : asm (jumpT l ++ [10] ++ rowsB ws ++ l ++ [58, 10]) = (encL ⟨24, 0, 0, ws.length⟩ ++ bytesW ws, 0, 0) := by
  have h10 : (10 : UInt8) ∉ jumpT l := by
    unfold jumpT
    simp [lab_no h (show isLd 10 = false by decide)]
  have h10' : (10 : UInt8) ∉ l ++ [58] := by
    simp [lab_no h (show isLd 10 = false by decide)]
  have ll := (lab_len h).1
  have hr := rows_len ws
  have e : splitC 10 (jumpT l ++ [10] ++ rowsB ws ++ l ++ [58, 10]) = jumpT l :: (ws.map lineOf ++ [l ++ [58], []]) := by
    rw [show jumpT l ++ [10] ++ rowsB ws ++ l ++ [58, 10] = jumpT l ++ 10 :: (rowsB ws ++ ((l ++ [58]) ++ 10 :: [])) by simp, splitC_app h10, splitC_rows, splitC_app h10']
    rfl
  have ek : (jumpT l :: (ws.map lineOf ++ [l ++ [58], []])).map lineK = .ins ⟨24, 0, 0, 0⟩ l :: (ws.map kindOf ++ [.lab l, .blank]) := by
    rw [List.map_cons, jump_line h, List.map_append, List.map_map]
    congr 2
    · apply List.map_congr_left
      intro w _
      exact lineK_of w
    · show [lineK (l ++ [58]), lineK []] = _
      rw [lab_line h]
      rfl
  have hlen : (jumpT l ++ [10] ++ rowsB ws ++ l ++ [58, 10]).length ≤ 32768 := by
    simp only [List.length_append, jumpT]
    simp
    omega
  unfold asm asmK
  rw [if_neg (by omega), e, ek]
  have p1 : pass1 (.ins ⟨24, 0, 0, 0⟩ l :: (ws.map kindOf ++ [.lab l, .blank])) 0 0 [] = .fine (4 + 4 * ws.length, [(l, 4 + 4 * ws.length)]) := by
    show (if 4096 < 0 + 4 then AR.bad 1 94 else pass1 (ws.map kindOf ++ [.lab l, .blank]) 1 4 []) = _
    rw [if_neg (by omega), pass1_rows ws _ 1 4 [] (by omega)]
    rfl
  rw [p1]
  have hway : way (4 + 4 * ws.length) 0 = (ws.length : Int) := by unfold way; omega
  have p2 : pass2 (.ins ⟨24, 0, 0, 0⟩ l :: (ws.map kindOf ++ [.lab l, .blank])) 0 [] [(l, 4 + 4 * ws.length)] = .fine (encL ⟨24, 0, 0, ws.length⟩ ++ bytesW ws) := by
    rw [pass2_ins, if_neg (lab_len h).2, findP_one]
    simp only [List.length_nil]
    rw [hway]
    show (if okL ⟨24, 0, 0, (ws.length : Int)⟩ 24 = true then pass2 (ws.map kindOf ++ [.lab l, .blank]) (0 + 1) ([] ++ encL ⟨24, 0, 0, (ws.length : Int)⟩) _ else _) = _
    rw [if_pos (ok_jump (by omega) (by omega)), pass2_rows]
    rfl
  show told (pass2 _ 0 [] [(l, 4 + 4 * ws.length)]) = _
  rw [p2]
  rfl
/-- A way back over so many. -/
theorem asm_behind (ws : List W4) (hw : ws.length ≤ 1000) {l : List UInt8} (h : isLab l = true) : asm (l ++ [58, 10] ++ rowsB ws ++ someT l) = (bytesW ws ++ encL ⟨26, 3, 0, -(ws.length : Int) - 1⟩, 0, 0) := by
  have h10 : (10 : UInt8) ∉ someT l := by
    unfold someT
    simp [lab_no h (show isLd 10 = false by decide)]
  have h10' : (10 : UInt8) ∉ l ++ [58] := by
    simp [lab_no h (show isLd 10 = false by decide)]
  have ll := (lab_len h).1
  have hr := rows_len ws
  have e : splitC 10 (l ++ [58, 10] ++ rowsB ws ++ someT l) = (l ++ [58]) :: (ws.map lineOf ++ [someT l]) := by
    rw [show l ++ [58, 10] ++ rowsB ws ++ someT l = (l ++ [58]) ++ 10 :: (rowsB ws ++ someT l) by simp, splitC_app h10', splitC_rows, splitC_none h10]
  have ek : ((l ++ [58]) :: (ws.map lineOf ++ [someT l])).map lineK = .lab l :: (ws.map kindOf ++ [.ins ⟨26, 3, 0, 0⟩ l]) := by
    rw [List.map_cons, lab_line h, List.map_append, List.map_map]
    congr 2
    · apply List.map_congr_left
      intro w _
      exact lineK_of w
    · show [lineK (someT l)] = _
      rw [some_line h]
  have hlen : (l ++ [58, 10] ++ rowsB ws ++ someT l).length ≤ 32768 := by
    simp only [List.length_append, someT]
    simp
    omega
  unfold asm asmK
  rw [if_neg (by omega), e, ek]
  have p1 : pass1 (.lab l :: (ws.map kindOf ++ [.ins ⟨26, 3, 0, 0⟩ l])) 0 0 [] = .fine (4 * ws.length + 4, [(l, 0)]) := by
    show pass1 (ws.map kindOf ++ [.ins ⟨26, 3, 0, 0⟩ l]) 1 0 [(l, 0)] = _
    rw [pass1_rows ws _ 1 0 _ (by omega), Nat.zero_add]
    show (if 4096 < 4 * ws.length + 4 then AR.bad (1 + ws.length + 1) 94 else _) = _
    rw [if_neg (by omega)]
    rfl
  rw [p1]
  have hway : way 0 (bytesW ws).length = -(ws.length : Int) - 1 := by unfold way; rw [bytesW_len]; omega
  have p2 : pass2 (.lab l :: (ws.map kindOf ++ [.ins ⟨26, 3, 0, 0⟩ l])) 0 [] [(l, 0)] = .fine (bytesW ws ++ encL ⟨26, 3, 0, -(ws.length : Int) - 1⟩) := by
    show pass2 (ws.map kindOf ++ [.ins ⟨26, 3, 0, 0⟩ l]) 1 [] [(l, 0)] = _
    rw [pass2_rows, List.nil_append, pass2_ins, if_neg (lab_len h).2, findP_one]
    simp only
    rw [hway]
    show (if okL ⟨26, 3, 0, -(ws.length : Int) - 1⟩ 26 = true then _ else _) = _
    rw [if_pos (ok_some (by omega) (by omega))]
    rfl
  show told (pass2 _ 0 [] [(l, 0)]) = _
  rw [p2]
  rfl
end Go.Proofs.YtbmaecdlkchkeaaGreatDoor

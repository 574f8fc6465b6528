/- A space in memory: a memory, and each partition's table; is, In, Out. -/
import Derived.Test.YtonongaakieciaaW11
namespace Go.Proofs.Ytonongaakieciaa
open Go.RowKit
set_option linter.unusedVariables false
set_option linter.unusedSimpArgs false
set_option maxRecDepth 100000
/-- What a space is. -/
structure Sp where
  st : St
  tb : List (List Pg)
/-- Blocks of S hold no pages. -/
def NoT (t : TypeId) (w : World) (S : List Nat) : Prop := ∀ k, k ∈ S → ∀ cs mk, w.heap[k]? ≠ some (.cells cs t mk)
theorem NoT.nil (t : TypeId) (w : World) : NoT t w [] := fun k hk => by cases hk
theorem Blk.not {w : World} {k : Nat} {t t' : TypeId} {cs : Array Value} (h : Blk w k t cs) (ht : t' ≠ t) : NoT t' w [k] := by
  intro j hj cs' mk' he
  simp at hj
  subst hj
  unfold Blk at h
  rw [h] at he
  injection he with he
  injection he with _ he _
  exact ht he.symm
theorem NoT.app {t : TypeId} {w : World} {S T : List Nat} (h : NoT t w S) (h' : NoT t w T) : NoT t w (S ++ T) := by
  intro k hk
  rcases List.mem_append.1 hk with hk | hk
  · exact h k hk
  · exact h' k hk
theorem Blk.ne_type {w : World} {k k' : Nat} {t t' : TypeId} {cs cs' : Array Value} (h : Blk w k t cs) (h' : Blk w k' t' cs') (ht : t ≠ t') : k ≠ k' := by
  rintro rfl
  exact ht (h.eq h').1
/-- A table, in a block of pages. -/
def TbT (w : World) (v : Value) (t : List Pg) : Prop := ∃ A c, v = .slice A t.length c ∧ t.length ≤ c ∧ c ≤ maxLen ∧ (A = none → t = []) ∧ ∃ b cb mk, w.heap[b]? = some (.cells cb 61 mk) ∧ Tb w b v t
theorem TbT.fr {S : List Nat} {w w' : World} {v : Value} {t : List Pg} (h : TbT w v t) (hf : Fr S w w') (hS : NoT 61 w S) : TbT w' v t := by
  obtain ⟨A, c, h1, h2, h3, h4, b, cb, mk, hb, ht⟩ := h
  have hn : b ∉ S := fun hk => hS b hk cb mk hb
  exact ⟨A, c, h1, h2, h3, h4, b, cb, mk, (hf.block b (Array.getElem?_eq_some_iff.1 hb).1 hn).trans hb, ht.fr hf hn⟩
/-- A space: its struct in block s, its memory in p and F, the row of its tables in g. -/
structure SpAt (w : World) (s p F g : Nat) (x : Sp) : Prop where
  hb : ∃ cap, Blk w s 114 #[ptr p, .slice (some ⟨g, 0, none⟩) x.tb.length cap] ∧ x.tb.length ≤ cap ∧ cap ≤ maxLen
  mem : MemAt w p F x.st
  row : ∃ cs, Blk w g 62 cs ∧ ∀ (i : Nat) (t : List Pg), x.tb[i]? = some t → ∃ v, cs[i]? = some v ∧ TbT w v t
  n1 : 1 ≤ x.tb.length
  n2 : x.tb.length ≤ 8
  n3 : ∀ (i : Nat) (t : List Pg), x.tb[i]? = some t → t.length ≤ 16
section
variable {w w' : World} {s p F g : Nat} {x : Sp}
theorem SpAt.blks (h : SpAt w s p F g x) : (∃ cs, Blk w s 114 cs) ∧ (∃ cs, Blk w p 130 cs) ∧ (∃ cs, Blk w F 136 cs) ∧ ∃ cs, Blk w g 62 cs := by
  obtain ⟨⟨cap, hb, -⟩, ⟨⟨⟨c2, h2, -⟩, -, -⟩, ⟨c3, h3, -⟩⟩, ⟨cs, hg, -⟩, -⟩ := h
  exact ⟨⟨_, hb⟩, ⟨_, h2⟩, ⟨_, h3⟩, ⟨_, hg⟩⟩
theorem SpAt.not (h : SpAt w s p F g x) {t : TypeId} (t1 : t ≠ 114) (t2 : t ≠ 130) (t3 : t ≠ 136) (t4 : t ≠ 62) : NoT t w [s, p, F, g] := by
  obtain ⟨⟨c1, h1⟩, ⟨c2, h2⟩, ⟨c3, h3⟩, ⟨c4, h4⟩⟩ := h.blks
  exact NoT.app (S := [s]) (h1.not t1) (NoT.app (S := [p]) (h2.not t2) (NoT.app (S := [F]) (h3.not t3) (h4.not t4)))
theorem SpAt.ne (h : SpAt w s p F g x) : s ≠ p ∧ s ≠ F ∧ s ≠ g ∧ p ≠ F ∧ p ≠ g ∧ F ≠ g := by
  obtain ⟨⟨c1, h1⟩, ⟨c2, h2⟩, ⟨c3, h3⟩, ⟨c4, h4⟩⟩ := h.blks
  exact ⟨h1.ne_type h2 (by decide), h1.ne_type h3 (by decide), h1.ne_type h4 (by decide), h2.ne_type h3 (by decide), h2.ne_type h4 (by decide), h3.ne_type h4 (by decide)⟩
theorem SpAt.lt (h : SpAt w s p F g x) : s < w.heap.size ∧ p < w.heap.size ∧ F < w.heap.size ∧ g < w.heap.size := by
  obtain ⟨⟨c1, h1⟩, ⟨c2, h2⟩, ⟨c3, h3⟩, ⟨c4, h4⟩⟩ := h.blks
  exact ⟨h1.lt, h2.lt, h3.lt, h4.lt⟩
/-- What is not the space's turns. -/
theorem SpAt.fr {S : List Nat} (h : SpAt w s p F g x) (hf : Fr S w w') (h1 : s ∉ S) (h2 : p ∉ S) (h3 : F ∉ S) (h4 : g ∉ S) (hS : NoT 61 w S) : SpAt w' s p F g x := by
  obtain ⟨⟨cap, hb, hc⟩, hm, ⟨cs, hg, hr⟩, n1, n2, n3⟩ := h
  refine ⟨⟨cap, hb.fr hf h1, hc⟩, hm.to hf h2 h3, ⟨cs, hg.fr hf h4, fun i t hi => ?_⟩, n1, n2, n3⟩
  obtain ⟨v, e1, e2⟩ := hr i t hi
  exact ⟨v, e1, e2.fr hf hS⟩
theorem SpAt.to (h : SpAt w s p F g x) (hf : Fr [] w w') : SpAt w' s p F g x := h.fr hf (by simp) (by simp) (by simp) (by simp) (NoT.nil _ _)
/-- The memory turns. -/
theorem SpAt.turnM (h : SpAt w s p F g x) {st' : St} (hm : MemAt w' p F st') (hf : Fr [F] w w') : SpAt w' s p F g ⟨st', x.tb⟩ := by
  obtain ⟨e1, e2, e3, e4, e5, e6⟩ := h.ne
  obtain ⟨-, -, ⟨c3, h3⟩, -⟩ := h.blks
  obtain ⟨⟨cap, hb, hc⟩, -, ⟨cs, hg, hr⟩, n1, n2, n3⟩ := h
  refine ⟨⟨cap, hb.fr hf (by simp; omega), hc⟩, hm, ⟨cs, hg.fr hf (by simp; omega), fun i t hi => ?_⟩, n1, n2, n3⟩
  obtain ⟨v, k1, k2⟩ := hr i t hi
  exact ⟨v, k1, k2.fr hf (h3.not (by decide))⟩
theorem SpAt.cells (h : SpAt w s p F g x) : ∃ cap, w.cell? ⟨s, 0, none⟩ = some (ptr p) ∧ w.cell? ⟨s, 1, none⟩ = some (.slice (some ⟨g, 0, none⟩) x.tb.length cap) := by
  obtain ⟨⟨cap, hb, hc⟩, -⟩ := h
  exact ⟨cap, hb.cell 0, hb.cell 1⟩
theorem SpAt.table (h : SpAt w s p F g x) {i : Nat} {t : List Pg} (hi : x.tb[i]? = some t) : ∃ A c b, w.cell? ⟨g, i, none⟩ = some (.slice A t.length c) ∧ t.length ≤ c ∧ c ≤ maxLen ∧ Tb w b (.slice A t.length c) t ∧ b < w.heap.size ∧ TbT w (.slice A t.length c) t := by
  obtain ⟨-, -, ⟨cs, hg, hr⟩, -⟩ := h
  obtain ⟨v, e1, hT⟩ := hr i t hi
  have hT' := hT
  obtain ⟨A, c, rfl, h2, h3, -, b, cb, mk, hb, ht⟩ := hT
  exact ⟨A, c, b, by rw [hg.cell]; exact e1, h2, h3, ht, (Array.getElem?_eq_some_iff.1 hb).1, hT'⟩
end
theorem in_any (n a b : Int) (w : World) : Calls Try.prog 55 #[.int .i64 n, .int .i64 a, .int .i64 b] w fun e w' => e = .returned (.bool (decide (a ≤ n) && decide (n ≤ b))) ∧ w = w' := by
  by_cases h1 : a ≤ n
  · by_cases h2 : n ≤ b
    · rw [decide_eq_true h1, decide_eq_true h2]
      go_enter Try.func55, Try.ntmps55
      go_wp2
      go_ret
      exact ⟨rfl, rfl⟩
    · rw [decide_eq_true h1, decide_eq_false h2]
      go_enter Try.func55, Try.ntmps55
      go_wp2
      go_ret
      exact ⟨rfl, rfl⟩
  · rw [decide_eq_false h1, Bool.false_and]
    go_enter Try.func55, Try.ntmps55
    go_wp2
    go_ret
    exact ⟨rfl, rfl⟩
/-- Is a partition there? -/
def hasP (x : Sp) (i : Int) : Bool := decide (0 ≤ i) && decide (i < x.tb.length)
theorem is_any (s p F g : Nat) (x : Sp) (i : Int) (w : World) (h : SpAt w s p F g x) : Calls Try.prog 58 #[ptr s, .int .i64 i] w fun e w' => e = .returned (.bool (hasP x i)) ∧ w = w' := by
  obtain ⟨cap, c0, c1⟩ := h.cells
  have hn := h.n2
  have hn1 := h.n1
  have E : Hid ((decide (0 ≤ i) && decide (i ≤ (x.tb.length : Int) - 1)) = hasP x i) := Lib.hid (by
    unfold hasP
    rw [show (decide (i ≤ (x.tb.length : Int) - 1)) = decide (i < (x.tb.length : Int)) from by rw [decide_eq_decide]; omega])
  have HI := Lib.hid (fun W => in_any i 0 ((x.tb.length : Int) - 1) W)
  rw [E.out] at HI
  have hw : IntKind.i64.wrap ((x.tb.length : Int) - 1) = (x.tb.length : Int) - 1 := IntWalk.i64_in _ (by omega)
  clear h E
  generalize hasP x i = B at *
  generalize x.tb.length = N at *
  go_enter Try.func58, Try.ntmps58
  go_wp2_with (go_at_call 55; refine (HI.out _).mono ?_; rintro e w1 ⟨rfl, rfl⟩)
  go_ret
  exact ⟨rfl, rfl⟩
theorem hasP_some {x : Sp} {i : Int} (h : hasP x i = true) : ∃ (k : Nat) (t : List Pg), i = (k : Int) ∧ x.tb[k]? = some t := by
  unfold hasP at h
  simp only [Bool.and_eq_true, decide_eq_true_eq] at h
  exact ⟨i.toNat, x.tb[i.toNat]'(by omega), by omega, List.getElem?_eq_getElem (by omega)⟩
/-- A partition's table; none: none. -/
def tbOf (x : Sp) (i : Int) : List Pg := if hasP x i then (x.tb[i.toNat]?).getD [] else []
theorem tbOf_some {x : Sp} {k : Nat} {t : List Pg} (h : x.tb[k]? = some t) : hasP x (k : Int) = true ∧ tbOf x (k : Int) = t := by
  have hk : k < x.tb.length := (List.getElem?_eq_some_iff.1 h).1
  have h1 : hasP x (k : Int) = true := by
    unfold hasP
    simp only [Bool.and_eq_true, decide_eq_true_eq]
    omega
  refine ⟨h1, ?_⟩
  unfold tbOf
  rw [if_pos h1, Int.toNat_natCast, h]
  rfl
def outE0 (x : Sp) (i : Int) (s : ByteArray) : Int := if hasP x i = false then 120 else if 255 < s.size then 122 else 0
def outE (x : Sp) (i a : Int) (s : ByteArray) : Int := if outE0 x i s ≠ 0 then outE0 x i s else if wrE x.st (tbOf x i) a s ≠ 0 then 121 else 0
def outS (x : Sp) (i a : Int) (s : ByteArray) : Sp := if outE0 x i s ≠ 0 then x else ⟨wrS x.st (tbOf x i) a s, x.tb⟩
def SpT (s p F g : Nat) (w : World) (x : Sp) (w' : World) : Prop := SpAt w' s p F g x ∧ Fr [F, g] w w'
theorem Out_any (s p F g : Nat) (x : Sp) (i a : Int) (t : ByteArray) (w : World) (h : SpAt w s p F g x) (ha : a ≤ 9223372036854775807) : Calls Try.prog 19 #[ptr s, .int .i64 i, .int .i64 a, .string t] w fun e w' => e = .returned (.int .i64 (outE x i a t)) ∧ SpT s p F g w (outS x i a t) w' := by
  have HI := Lib.hid (is_any s p F g x i w h)
  obtain ⟨cap, c0, c1⟩ := h.cells
  have HR : Hid (SpT s p F g w x w) := Lib.hid ⟨h, Fr.refl _ _⟩
  cases hp : hasP x i with
  | false =>
    have E0 : outE0 x i t = 120 := by unfold outE0; rw [if_pos hp]
    have E1 : outE x i a t = 120 := by unfold outE; rw [E0]; rfl
    have E2 : outS x i a t = x := by unfold outS; rw [E0]; rfl
    rw [E1, E2]
    rw [hp] at HI
    clear h E0 E1 E2 hp
    go_enter Try.func19, Try.ntmps19
    go_wp2_with (go_at_call 58; refine HI.out.mono ?_; rintro e w1 ⟨rfl, rfl⟩)
    go_ret
    exact ⟨rfl, HR.out⟩
  | true =>
    rw [hp] at HI
    by_cases hs : 255 < t.size
    · have E0 : outE0 x i t = 122 := by unfold outE0; rw [if_neg (by rw [hp]; simp), if_pos hs]
      have E1 : outE x i a t = 122 := by unfold outE; rw [E0]; rfl
      have E2 : outS x i a t = x := by unfold outS; rw [E0]; rfl
      rw [E1, E2]
      have hs' : (255 : Int) < (t.size : Int) := by omega
      clear h E0 E1 E2 hp hs
      go_enter Try.func19, Try.ntmps19
      go_wp2_with (go_at_call 58; refine HI.out.mono ?_; rintro e w1 ⟨rfl, rfl⟩)
      go_ret
      exact ⟨rfl, HR.out⟩
    · have E0 : outE0 x i t = 0 := by unfold outE0; rw [if_neg (by rw [hp]; simp), if_neg hs]
      obtain ⟨k, tb, rfl, hk⟩ := hasP_some hp
      have hkn : k < x.tb.length := (List.getElem?_eq_some_iff.1 hk).1
      obtain ⟨-, hto⟩ := tbOf_some hk
      have E1 : outE x (k : Int) a t = if wrE x.st tb a t ≠ 0 then 121 else 0 := by unfold outE; rw [E0, hto]; rfl
      have E2 : outS x (k : Int) a t = ⟨wrS x.st tb a t, x.tb⟩ := by unfold outS; rw [E0, hto]; rfl
      rw [E1, E2]
      obtain ⟨A, c, b, c2, -, -, hTb, hbl, hTT⟩ := h.table hk
      obtain ⟨n1, n2, n3, n4, n5, n6⟩ := h.ne
      have HK := Lib.hid (fun W (hf : Fr [F] w W) => (show W.cell? ⟨s, 0, none⟩ = some (ptr p) ∧ W.cell? ⟨s, 1, none⟩ = some (.slice (some ⟨g, 0, none⟩) x.tb.length cap) ∧ W.cell? ⟨g, k, none⟩ = some (.slice A tb.length c) from ⟨hf.cell_some c0 (by simp; omega), hf.cell_some c1 (by simp; omega), hf.cell_some c2 (by simp; omega)⟩))
      have HW := Lib.hid ((Write_any b p F tb.length c x.st A tb a t w.drew (hTb.fr (Fr.refl [] w).drew (by simp)) (h.to (Fr.refl [] w).drew).mem ha hbl).mono (R' := fun e w' => e = .returned (.int .i64 (wrE x.st tb a t)) ∧ SpT s p F g w ⟨wrS x.st tb a t, x.tb⟩ w' ∧ Fr [F] w w') (fun e w' ⟨he, hm, hf⟩ => ⟨he, ⟨(h.to (Fr.refl [] w).drew).turnM hm hf, ((Fr.refl [F, g] w).drew.trans (hf.mono (fun j hj _ => by simp at hj; simp [hj])))⟩, (Fr.refl [F] w).drew.trans hf⟩))
      have hs' : ¬ (255 : Int) < (t.size : Int) := by omega
      have hk' : (k : Int) < (x.tb.length : Int) := by omega
      have hk0 : (0 : Int) ≤ (k : Int) := by omega
      clear h E0 E1 E2 hp hs hto hTb hTT hk hkn
      generalize x.tb.length = N at *
      generalize tb.length = m at *
      generalize wrE x.st tb a t = E at *
      generalize (⟨wrS x.st tb a t, x.tb⟩ : Sp) = X at *
      by_cases hE : E = 0
      · rw [if_neg (by omega)]
        subst hE
        go_enter Try.func19, Try.ntmps19
        go_wp2_with (go_at_call 58; refine HI.out.mono ?_; rintro e w1 ⟨rfl, rfl⟩)
        go_region_held3 (fun W => W.cell? ⟨s, 0, none⟩ = some (ptr p) ∧ W.cell? ⟨s, 1, none⟩ = some (.slice (some ⟨g, 0, none⟩) N cap) ∧ W.cell? ⟨g, k, none⟩ = some (.slice A m c)) (first | exact kk | exact ⟨c0, c1, c2⟩) (first
          | (go_at_call 61; refine HW.out.mono ?_; rintro e w2 ⟨rfl, hT, hf2⟩; have kk := HK.out _ hf2))
        go_wp2_with fail
        go_ret
        exact ⟨rfl, hT⟩
      · rw [if_pos hE]
        go_enter Try.func19, Try.ntmps19
        go_wp2_with (go_at_call 58; refine HI.out.mono ?_; rintro e w1 ⟨rfl, rfl⟩)
        go_region_held3 (fun W => W.cell? ⟨s, 0, none⟩ = some (ptr p) ∧ W.cell? ⟨s, 1, none⟩ = some (.slice (some ⟨g, 0, none⟩) N cap) ∧ W.cell? ⟨g, k, none⟩ = some (.slice A m c)) (first | exact kk | exact ⟨c0, c1, c2⟩) (first
          | (go_at_call 61; refine HW.out.mono ?_; rintro e w2 ⟨rfl, hT, hf2⟩; have kk := HK.out _ hf2))
        go_wp2_with fail
        go_ret
        exact ⟨rfl, hT⟩
end Go.Proofs.Ytonongaakieciaa

/- The reference's space in memory: Has, Table, In, Out. -/
import Derived.Test.YtonongaakieciaaS7
import Derived.Test.YtonongaakieciaaW22
namespace Go.Proofs.Ytonongaakieciaa
open Go.RowKit
set_option linter.unusedVariables false
set_option linter.unusedSimpArgs false
set_option maxRecDepth 100000
/-- The reference's space: its struct in block y, its memory in q and G, the row of its tables in g. -/
structure RSp (w : World) (y q G g : Nat) (x : Sp) : Prop where
  hb : ∃ cap, Blk w y 122 #[ptr q, .slice (some ⟨g, 0, none⟩) x.tb.length cap] ∧ x.tb.length ≤ cap ∧ cap ≤ maxLen
  mem : RMem w q G x.st
  row : RowT w g x.tb
  n1 : 1 ≤ x.tb.length
  n2 : x.tb.length ≤ 8
  n3 : ∀ (i : Nat) (t : List Pg), x.tb[i]? = some t → t.length ≤ 16
section
variable {w w' : World} {y q G g : Nat} {x : Sp}
theorem RSp.blks (h : RSp w y q G g x) : (∃ cs, Blk w y 122 cs) ∧ (∃ cs, Blk w q 126 cs) ∧ (∃ cs, Blk w G 9 cs) ∧ ∃ cs, Blk w g 62 cs := by
  obtain ⟨⟨cap, hb, -⟩, ⟨⟨⟨c2, h2, -⟩, -, -⟩, ⟨c3, h3, -⟩⟩, ⟨cs, hg, -⟩, -⟩ := h
  exact ⟨⟨_, hb⟩, ⟨_, h2⟩, ⟨_, h3⟩, ⟨_, hg⟩⟩
theorem RSp.not (h : RSp w y q G g x) {t : TypeId} (t1 : t ≠ 122) (t2 : t ≠ 126) (t3 : t ≠ 9) (t4 : t ≠ 62) : NoT t w [y, q, G, g] := by
  obtain ⟨⟨c1, h1⟩, ⟨c2, h2⟩, ⟨c3, h3⟩, ⟨c4, h4⟩⟩ := h.blks
  exact NoT.app (S := [y]) (h1.not t1) (NoT.app (S := [q]) (h2.not t2) (NoT.app (S := [G]) (h3.not t3) (h4.not t4)))
theorem RSp.ne (h : RSp w y q G g x) : y ≠ q ∧ y ≠ G ∧ y ≠ g ∧ q ≠ G ∧ q ≠ g ∧ G ≠ g := by
  obtain ⟨⟨c1, h1⟩, ⟨c2, h2⟩, ⟨c3, h3⟩, ⟨c4, h4⟩⟩ := h.blks
  exact ⟨h1.ne_type h2 (by decide), h1.ne_type h3 (by decide), h1.ne_type h4 (by decide), h2.ne_type h3 (by decide), h2.ne_type h4 (by decide), h3.ne_type h4 (by decide)⟩
theorem RSp.lt (h : RSp w y q G g x) : y < w.heap.size ∧ q < w.heap.size ∧ G < w.heap.size ∧ g < w.heap.size := by
  obtain ⟨⟨c1, h1⟩, ⟨c2, h2⟩, ⟨c3, h3⟩, ⟨c4, h4⟩⟩ := h.blks
  exact ⟨h1.lt, h2.lt, h3.lt, h4.lt⟩
theorem RSp.fr {S : List Nat} (h : RSp w y q G g x) (hf : Fr S w w') (h1 : y ∉ S) (h2 : q ∉ S) (h3 : G ∉ S) (h4 : g ∉ S) (hS : NoT 61 w S) : RSp w' y q G g x := by
  obtain ⟨⟨cap, hb, hc⟩, hm, ⟨cs, hg, hr⟩, n1, n2, n3⟩ := h
  refine ⟨⟨cap, hb.fr hf h1, hc⟩, hm.to hf h2 h3, ⟨cs, hg.fr hf h4, fun i t hi => ?_⟩, n1, n2, n3⟩
  obtain ⟨v, e1, e2⟩ := hr i t hi
  exact ⟨v, e1, e2.fr hf hS⟩
theorem RSp.to (h : RSp w y q G g x) (hf : Fr [] w w') : RSp w' y q G g x := h.fr hf (by simp) (by simp) (by simp) (by simp) (NoT.nil _ _)
/-- The memory turns. -/
theorem RSp.turnM (h : RSp w y q G g x) {st' : St} (hm : RMem w' q G st') (hf : Fr [G] w w') : RSp w' y q G g ⟨st', x.tb⟩ := by
  obtain ⟨e1, e2, e3, e4, e5, e6⟩ := h.ne
  obtain ⟨-, -, ⟨c3, h3⟩, -⟩ := h.blks
  obtain ⟨⟨cap, hb, hc⟩, -, ⟨cs, hg, hr⟩, n1, n2, n3⟩ := h
  refine ⟨⟨cap, hb.fr hf (by simp; omega), hc⟩, hm, ⟨cs, hg.fr hf (by simp; omega), fun i t hi => ?_⟩, n1, n2, n3⟩
  obtain ⟨v, k1, k2⟩ := hr i t hi
  exact ⟨v, k1, k2.fr hf (h3.not (by decide))⟩
theorem RSp.cells (h : RSp w y q G g x) : ∃ cap, w.cell? ⟨y, 0, none⟩ = some (ptr q) ∧ w.cell? ⟨y, 1, none⟩ = some (.slice (some ⟨g, 0, none⟩) x.tb.length cap) := by
  obtain ⟨⟨cap, hb, hc⟩, -⟩ := h
  exact ⟨cap, hb.cell 0, hb.cell 1⟩
theorem RSp.table (h : RSp w y q G g x) {i : Nat} {t : List Pg} (hi : x.tb[i]? = some t) : ∃ A c b, w.cell? ⟨g, i, none⟩ = some (.slice A t.length c) ∧ t.length ≤ c ∧ c ≤ maxLen ∧ Tb w b (.slice A t.length c) t ∧ b < w.heap.size ∧ b ≠ G ∧ TbT w (.slice A t.length c) t := by
  obtain ⟨-, -, ⟨c3, h3⟩, -⟩ := h.blks
  obtain ⟨-, -, ⟨cs, hg, hr⟩, -⟩ := h
  obtain ⟨v, e1, hT⟩ := hr i t hi
  have hT' := hT
  obtain ⟨A, c, rfl, hc1, hc2, -, b, cb, mk, hb, ht⟩ := hT
  refine ⟨A, c, b, by rw [hg.cell]; exact e1, hc1, hc2, ht, (Array.getElem?_eq_some_iff.1 hb).1, ?_, hT'⟩
  rintro rfl
  unfold Blk at h3
  rw [h3] at hb
  injection hb with hb
  injection hb with _ hb _
  exact absurd hb (by decide)
end
theorem rHasP_any (y q G g : Nat) (x : Sp) (i : Int) (w : World) (h : RSp w y q G g x) : Calls Try.prog 63 #[ptr y, .int .i64 i] w fun e w' => e = .returned (.bool (hasP x i)) ∧ w = w' := by
  obtain ⟨cap, c0, c1⟩ := h.cells
  have hn := h.n2
  have hn1 := h.n1
  unfold hasP
  clear h
  generalize x.tb.length = N at *
  by_cases h1 : 0 ≤ i
  · rw [decide_eq_true h1, Bool.true_and]
    go_enter Try.func63, Try.ntmps63
    go_wp2
    go_ret
    exact ⟨rfl, rfl⟩
  · rw [decide_eq_false h1, Bool.false_and]
    go_enter Try.func63, Try.ntmps63
    go_wp2
    go_ret
    exact ⟨rfl, rfl⟩
def RTabP (w : World) (x : Sp) (i : Int) (e : Ending) (w' : World) : Prop := w = w' ∧ ((hasP x i = false ∧ e = .returned (.slice none 0 0)) ∨ (hasP x i = true ∧ ∃ A c, e = .returned (.slice A (tbOf x i).length c) ∧ TbT w (.slice A (tbOf x i).length c) (tbOf x i)))
theorem rTable_any (y q G g : Nat) (x : Sp) (i : Int) (w : World) (h : RSp w y q G g x) : Calls Try.prog 73 #[ptr y, .int .i64 i] w (RTabP w x i) := by
  have HI := Lib.hid (rHasP_any y q G g x i w h)
  obtain ⟨cap, c0, c1⟩ := h.cells
  cases hp : hasP x i with
  | false =>
    rw [hp] at HI
    have HP := Lib.hid hp
    clear h hp
    go_enter Try.func73, Try.ntmps73
    go_wp2_with (go_at_call 63; refine HI.out.mono ?_; rintro e w1 ⟨rfl, rfl⟩)
    go_ret
    exact ⟨rfl, .inl ⟨HP.out, rfl⟩⟩
  | true =>
    rw [hp] at HI
    obtain ⟨k, tb, rfl, hk⟩ := hasP_some hp
    have hkn : k < x.tb.length := (List.getElem?_eq_some_iff.1 hk).1
    obtain ⟨-, hto⟩ := tbOf_some hk
    obtain ⟨A, c, b, c2, -, -, -, -, -, hTT⟩ := h.table hk
    have HP := Lib.hid hp
    have Hto := Lib.hid hto
    have HT := Lib.hid hTT
    have hk' : (k : Int) < (x.tb.length : Int) := by omega
    have hk0 : (0 : Int) ≤ (k : Int) := by omega
    clear h hp hto hTT hk hkn
    generalize x.tb.length = N at *
    go_enter Try.func73, Try.ntmps73
    go_wp2_with (go_at_call 63; refine HI.out.mono ?_; rintro e w1 ⟨rfl, rfl⟩)
    go_ret
    exact ⟨rfl, .inr ⟨HP.out, A, c, by rw [Hto.out]; rfl, by rw [Hto.out]; exact HT.out⟩⟩
def RSpT (y q G g : Nat) (w : World) (x : Sp) (w' : World) : Prop := RSp w' y q G g x ∧ Fr [G, g] w w'
theorem rOut_any (y q G g : Nat) (x : Sp) (i a : Int) (t : ByteArray) (w : World) (h : RSp w y q G g x) (ha : a ≤ 9223372036854775807) : Calls Try.prog 24 #[ptr y, .int .i64 i, .int .i64 a, .string t] w fun e w' => e = .returned (.int .i64 (outE x i a t)) ∧ RSpT y q G g w (outS x i a t) w' := by
  have HI := Lib.hid (rHasP_any y q G g x i w h)
  obtain ⟨cap, c0, c1⟩ := h.cells
  have HR : Hid (RSpT y q G g w x w) := Lib.hid ⟨h, Fr.refl _ _⟩
  cases hp : hasP x i with
  | false =>
    have E0 : outE0 x i t = 120 := by unfold outE0; rw [if_pos hp]
    have E1 : outE x i a t = 120 := by unfold outE; rw [E0]; rfl
    have E2 : outS x i a t = x := by unfold outS; rw [E0]; rfl
    rw [E1, E2]
    rw [hp] at HI
    clear h E0 E1 E2 hp
    go_enter Try.func24, Try.ntmps24
    go_wp2_with (go_at_call 63; refine HI.out.mono ?_; rintro e w1 ⟨rfl, rfl⟩)
    go_ret
    exact ⟨rfl, HR.out⟩
  | true =>
    rw [hp] at HI
    by_cases hs : 255 < t.size
    · have E0 : outE0 x i t = 122 := by unfold outE0; rw [if_neg (by rw [hp]; simp), if_pos hs]
      have E1 : outE x i a t = 122 := by unfold outE; rw [E0]; rfl
      have E2 : outS x i a t = x := by unfold outS; rw [E0]; rfl
      rw [E1, E2]
      have hs' : (255 : Int) < (t.size : Int) := by omega
      clear h E0 E1 E2 hp hs
      go_enter Try.func24, Try.ntmps24
      go_wp2_with (go_at_call 63; refine HI.out.mono ?_; rintro e w1 ⟨rfl, rfl⟩)
      go_ret
      exact ⟨rfl, HR.out⟩
    · have E0 : outE0 x i t = 0 := by unfold outE0; rw [if_neg (by rw [hp]; simp), if_neg hs]
      obtain ⟨k, tb, rfl, hk⟩ := hasP_some hp
      have hkn : k < x.tb.length := (List.getElem?_eq_some_iff.1 hk).1
      obtain ⟨-, hto⟩ := tbOf_some hk
      have E1 : outE x (k : Int) a t = if wrE x.st tb a t ≠ 0 then 121 else 0 := by unfold outE; rw [E0, hto]; rfl
      have E2 : outS x (k : Int) a t = ⟨wrS x.st tb a t, x.tb⟩ := by unfold outS; rw [E0, hto]; rfl
      rw [E1, E2]
      obtain ⟨A, c, b, c2, -, -, hTb, hbl, hbG, hTT⟩ := h.table hk
      obtain ⟨n1, n2, n3, n4, n5, n6⟩ := h.ne
      have HK := Lib.hid (fun W (hf : Fr [G] w W) => (show W.cell? ⟨y, 0, none⟩ = some (ptr q) ∧ W.cell? ⟨y, 1, none⟩ = some (.slice (some ⟨g, 0, none⟩) x.tb.length cap) ∧ W.cell? ⟨g, k, none⟩ = some (.slice A tb.length c) from ⟨hf.cell_some c0 (by simp; omega), hf.cell_some c1 (by simp; omega), hf.cell_some c2 (by simp; omega)⟩))
      have HW := Lib.hid ((rWrite_any b q G tb.length c x.st A tb a t w.drew (hTb.fr (Fr.refl [] w).drew (by simp)) (h.to (Fr.refl [] w).drew).mem ha hbG).mono (R' := fun e w' => e = .returned (.int .i64 (wrE x.st tb a t)) ∧ RSpT y q G g w ⟨wrS x.st tb a t, x.tb⟩ w' ∧ Fr [G] w w') (fun e w' ⟨he, hm, hf⟩ => ⟨he, ⟨(h.to (Fr.refl [] w).drew).turnM hm hf, ((Fr.refl [G, g] w).drew.trans (hf.mono (fun j hj _ => by simp at hj; simp [hj])))⟩, (Fr.refl [G] w).drew.trans hf⟩))
      have hs' : ¬ (255 : Int) < (t.size : Int) := by omega
      have hk' : (k : Int) < (x.tb.length : Int) := by omega
      have hk0 : (0 : Int) ≤ (k : Int) := by omega
      clear h E0 E1 E2 hp hs hto hTb hTT hk hkn
      generalize x.tb.length = N at *
      generalize tb.length = m at *
      generalize wrE x.st tb a t = E at *
      generalize (⟨wrS x.st tb a t, x.tb⟩ : Sp) = X at *
      by_cases hE : E = 0
      · rw [if_neg (by omega)]
        subst hE
        go_enter Try.func24, Try.ntmps24
        go_wp2_with (go_at_call 63; refine HI.out.mono ?_; rintro e w1 ⟨rfl, rfl⟩)
        go_region_held3 (fun W => W.cell? ⟨y, 0, none⟩ = some (ptr q) ∧ W.cell? ⟨y, 1, none⟩ = some (.slice (some ⟨g, 0, none⟩) N cap) ∧ W.cell? ⟨g, k, none⟩ = some (.slice A m c)) (first | exact kk | exact ⟨c0, c1, c2⟩) (first
          | (go_at_call 66; refine HW.out.mono ?_; rintro e w2 ⟨rfl, hT, hf2⟩; have kk := HK.out _ hf2))
        go_wp2_with fail
        go_ret
        exact ⟨rfl, hT⟩
      · rw [if_pos hE]
        go_enter Try.func24, Try.ntmps24
        go_wp2_with (go_at_call 63; refine HI.out.mono ?_; rintro e w1 ⟨rfl, rfl⟩)
        go_region_held3 (fun W => W.cell? ⟨y, 0, none⟩ = some (ptr q) ∧ W.cell? ⟨y, 1, none⟩ = some (.slice (some ⟨g, 0, none⟩) N cap) ∧ W.cell? ⟨g, k, none⟩ = some (.slice A m c)) (first | exact kk | exact ⟨c0, c1, c2⟩) (first
          | (go_at_call 66; refine HW.out.mono ?_; rintro e w2 ⟨rfl, hT, hf2⟩; have kk := HK.out _ hf2))
        go_wp2_with fail
        go_ret
        exact ⟨rfl, hT⟩
theorem rIn_any (y q G g : Nat) (x : Sp) (i a n : Int) (w : World) (h : RSp w y q G g x) (ha : a ≤ 9223372036854775807) : Calls Try.prog 23 #[ptr y, .int .i64 i, .int .i64 a, .int .i64 n] w fun e w' => e = .returned (.tuple #[.string (inV x i a n), .int .i64 (inE x i a n)]) ∧ Fr [] w w' := by
  have HI := Lib.hid (rHasP_any y q G g x i w h)
  obtain ⟨cap, c0, c1⟩ := h.cells
  cases hp : hasP x i with
  | false =>
    obtain ⟨E1, E2⟩ := in_bad (a := a) (show inE0 x i n = 120 by unfold inE0; rw [if_pos hp]) (by decide)
    rw [E1, E2]
    rw [hp] at HI
    clear h E1 E2 hp
    go_enter Try.func23, Try.ntmps23
    go_wp2_with (go_at_call 63; refine HI.out.mono ?_; rintro e w1 ⟨rfl, rfl⟩)
    go_ret2
    exact ⟨rfl, Fr.refl _ _⟩
  | true =>
    rw [hp] at HI
    by_cases hs : n < 0 ∨ 255 < n
    · obtain ⟨E1, E2⟩ := in_bad (a := a) (show inE0 x i n = 122 by unfold inE0; rw [if_neg (by rw [hp]; simp), if_pos hs]) (by decide)
      rw [E1, E2]
      clear h E1 E2 hp
      by_cases hs1 : n < 0
      · clear hs
        go_enter Try.func23, Try.ntmps23
        go_wp2_with (go_at_call 63; refine HI.out.mono ?_; rintro e w1 ⟨rfl, rfl⟩)
        go_ret2
        exact ⟨rfl, Fr.refl _ _⟩
      · have hs2 : 255 < n := by omega
        clear hs
        go_enter Try.func23, Try.ntmps23
        go_wp2_with (go_at_call 63; refine HI.out.mono ?_; rintro e w1 ⟨rfl, rfl⟩)
        go_ret2
        exact ⟨rfl, Fr.refl _ _⟩
    · have E0 : inE0 x i n = 0 := by unfold inE0; rw [if_neg (by rw [hp]; simp), if_neg hs]
      have hs1 : ¬ n < 0 := by omega
      have hs2 : ¬ 255 < n := by omega
      obtain ⟨k, tb, rfl, hk⟩ := hasP_some hp
      have hkn : k < x.tb.length := (List.getElem?_eq_some_iff.1 hk).1
      obtain ⟨-, hto⟩ := tbOf_some hk
      obtain ⟨A, c, b, c2, -, -, hTb, hbl, hbG, hTT⟩ := h.table hk
      have HW := Lib.hid (rRead_any b q G tb.length c x.st A tb a n 1 w.drew (hTb.fr (Fr.refl [] w).drew (by simp)) (h.to (Fr.refl [] w).drew).mem ha)
      have E1 : inE x (k : Int) a n = if (rdR x.st tb a n 1).2 ≠ 0 then 121 else 0 := by unfold inE; rw [E0, hto]; rfl
      have E2 : inV x (k : Int) a n = if (rdR x.st tb a n 1).2 ≠ 0 then ⟨#[]⟩ else ⟨(rdR x.st tb a n 1).1.toArray⟩ := by
        unfold inV
        rw [E1, hto]
        by_cases hh : (rdR x.st tb a n 1).2 ≠ 0
        · rw [if_pos hh, if_pos hh, if_neg (by decide)]
        · rw [if_neg hh, if_neg hh, if_pos rfl]
      rw [E1, E2]
      have HK := Lib.hid (fun W (hf : Fr [] w.drew W) => (show W.cell? ⟨y, 0, none⟩ = some (ptr q) ∧ W.cell? ⟨y, 1, none⟩ = some (.slice (some ⟨g, 0, none⟩) x.tb.length cap) ∧ W.cell? ⟨g, k, none⟩ = some (.slice A tb.length c) from ⟨((Fr.refl [] w).drew.trans hf).cell_some c0 (by simp), ((Fr.refl [] w).drew.trans hf).cell_some c1 (by simp), ((Fr.refl [] w).drew.trans hf).cell_some c2 (by simp)⟩))
      have hk' : (k : Int) < (x.tb.length : Int) := by omega
      have hk0 : (0 : Int) ≤ (k : Int) := by omega
      unfold RReadP at HW
      clear h E0 E1 E2 hp hs hto hTb hTT hk hkn
      generalize x.tb.length = N at *
      generalize tb.length = m at *
      generalize (rdR x.st tb a n 1).2 = E at *
      generalize (⟨(rdR x.st tb a n 1).1.toArray⟩ : ByteArray) = S at *
      by_cases hE : E = 0
      · rw [if_neg (by omega), if_neg (by omega)]
        subst hE
        go_enter Try.func23, Try.ntmps23
        go_wp2_with (go_at_call 63; refine HI.out.mono ?_; rintro e w1 ⟨rfl, rfl⟩)
        go_region_held3 (fun W => W.cell? ⟨y, 0, none⟩ = some (ptr q) ∧ W.cell? ⟨y, 1, none⟩ = some (.slice (some ⟨g, 0, none⟩) N cap) ∧ W.cell? ⟨g, k, none⟩ = some (.slice A m c)) (first | exact kk | exact ⟨c0, c1, c2⟩) (first
          | (go_at_call 65; refine HW.out.mono ?_; rintro e w2 ⟨rfl, hf2⟩; have kk := HK.out _ hf2))
        go_wp2_with fail
        go_ret2
        exact ⟨rfl, (Fr.refl [] w).drew.trans hf2⟩
      · rw [if_pos hE, if_pos hE]
        go_enter Try.func23, Try.ntmps23
        go_wp2_with (go_at_call 63; refine HI.out.mono ?_; rintro e w1 ⟨rfl, rfl⟩)
        go_region_held3 (fun W => W.cell? ⟨y, 0, none⟩ = some (ptr q) ∧ W.cell? ⟨y, 1, none⟩ = some (.slice (some ⟨g, 0, none⟩) N cap) ∧ W.cell? ⟨g, k, none⟩ = some (.slice A m c)) (first | exact kk | exact ⟨c0, c1, c2⟩) (first
          | (go_at_call 65; refine HW.out.mono ?_; rintro e w2 ⟨rfl, hf2⟩; have kk := HK.out _ hf2))
        go_wp2_with fail
        go_ret2
        exact ⟨rfl, (Fr.refl [] w).drew.trans hf2⟩
end Go.Proofs.Ytonongaakieciaa

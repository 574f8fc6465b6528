/- The reference's disk: after, bytes, Image, Safe, After. -/
import Derived.Test.YthmnloapjdalpaaK1
import Derived.ChangeAlike
namespace Go.Proofs.Ythmnloapjdalpaa
open Go.RowKit
set_option linter.unusedVariables false
set_option linter.unusedSimpArgs false
theorem at8_extr {s : ByteArray} {a b i : Nat} (h : a + i < b) (h2 : b ≤ s.size) : at8 (s.extract a b) i = at8 s (a + i) := by
  unfold at8
  rw [ByteArray.data_extract, Array.getElem?_extract, if_pos (by show i < min b s.size - a; omega)]
theorem at8_cat (s t : ByteArray) (i : Nat) : at8 (s ++ t) i = if i < s.size then at8 s i else at8 t (i - s.size) := by
  unfold at8
  rw [ByteArray.data_append, Array.getElem?_append]
  show Option.getD (if i < s.size then _ else _) _ = _
  split <;> rfl
/-- What a crash leaves of an unsafe sector. -/
theorem left_cat {d : Dk} {i : Nat} {t : ByteArray} (hu : d.u i = some t) (ht : t.size = 128) (l : List Int) :
    t.extract 0 (clamp (chAt l i)) ++ (bs d.s (i * 128) 128).extract (clamp (chAt l i)) 128 = bs (leftB d (chAt l)) (i * 128) 128 := by
  have hc := clamp_le (chAt l i)
  generalize hC : clamp (chAt l i) = c at *
  have s1 : (t.extract 0 c).size = c := by rw [ByteArray.size_extract]; omega
  have s2 : ((bs d.s (i * 128) 128).extract c 128).size = 128 - c := by rw [ByteArray.size_extract, bs_size]; omega
  refine at8_ext (by rw [ByteArray.size_append, s1, s2, bs_size]; omega) fun j hj => ?_
  rw [ByteArray.size_append, s1, s2] at hj
  rw [at8_bs (by omega), at8_cat, s1]
  unfold leftB
  rw [show (i * 128 + j) / 128 = i by omega, show (i * 128 + j) % 128 = j by omega, hu, hC]
  simp only []
  split
  · rw [at8_extr (by omega) (by omega), Nat.zero_add]
  · rw [at8_extr (by omega) (by rw [bs_size]; omega), at8_bs (by omega)]
    congr 1
    omega
theorem left_none {d : Dk} {i : Nat} (hu : d.u i = none) (l : List Int) : bs (leftB d (chAt l)) (i * 128) 128 = bs d.s (i * 128) 128 := by
  refine bs_congr fun j hj => ?_
  unfold leftB
  rw [show (i * 128 + j) / 128 = i by omega, hu]
def leftO (o : One) (c : Nat) : One := if o.un then ⟨o.wr.extract 0 c ++ o.sf.extract c 128, ⟨#[]⟩, false⟩ else o
theorem OneIs.left {o : One} {d : Dk} {i : Nat} (h : OneIs o d i) (hok : d.Ok) (l : List Int) : OneIs (leftO o (clamp (chAt l i))) (d.die l) i := by
  obtain ⟨h1, h2, h3⟩ := h
  cases hu : d.u i with
  | none =>
    rw [hu] at h2
    have : leftO o (clamp (chAt l i)) = o := by unfold leftO; rw [h2]; rfl
    rw [this]
    exact ⟨by rw [h1]; exact (left_none hu l).symm, h2, fun t ht => by cases ht⟩
  | some t =>
    rw [hu] at h2
    have : leftO o (clamp (chAt l i)) = ⟨o.wr.extract 0 (clamp (chAt l i)) ++ o.sf.extract (clamp (chAt l i)) 128, ⟨#[]⟩, false⟩ := by unfold leftO; rw [h2]; rfl
    rw [this]
    refine ⟨?_, rfl, fun t ht => by cases ht⟩
    show _ ++ _ = bs (leftB d (chAt l)) (i * 128) 128
    rw [h3 t hu, h1]
    exact left_cat hu (hok.un i t hu).2 l
theorem newsO (w : World) (k : One) : ∀ (j : Nat) (u : Value), (ocs [k])[j]? = some u → (w.alloc (.cells #[.string k.sf, .string k.wr, .bool k.un] 129)).cell? ((⟨w.heap.size, 0, none⟩ : Addr).add j) = some u := by
  intro j u hu
  have hb := Blk.new w 129 #[.string k.sf, .string k.wr, .bool k.un]
  rw [addr_add, Nat.zero_add, hb.cell]
  simpa [ocs, oc] using hu
/-- The row so far: each as a crash leaves it. -/
def AfR (w0 w : World) (d : Dk) (l : List Int) (v : Value) (k : Nat) : Prop := ∃ lo, lo.length = k ∧ OOwn w0.heap.size w v lo ∧ (∀ (i : Nat) (o : One), lo[i]? = some o → OneIs o (d.die l) i) ∧ Fr [] w0 w
theorem AfR.push {w0 w' : World} {d : Dk} {l : List Int} {v' : Value} {k : Nat} {lo : List One} {o : One} (h : ∀ (i : Nat) (o : One), lo[i]? = some o → OneIs o (d.die l) i) (hl : lo.length = k) (ho : OneIs o (d.die l) k) (hw : w'.ownsRow w0.heap.size 129 3 v' (k + 1) (ocs lo ++ ocs [o])) (hf : Fr [] w0 w') : AfR w0 w' d l v' (k + 1) := by
  refine ⟨lo ++ [o], by simp [hl], ?_, fun i x hx => ?_, hf⟩
  · unfold OOwn
    rw [ocs_app, List.length_append, hl]
    exact hw
  · rw [List.getElem?_append] at hx
    split at hx
    · exact h i x hx
    · have : i = lo.length := by
        have := (List.getElem?_eq_some_iff.1 hx).1
        simp at this
        omega
      subst this
      simp at hx
      subst hx
      rw [hl]
      exact ho
set_option maxRecDepth 100000 in
set_option maxHeartbeats 2000000 in
theorem after_any (q : Nat) (d : Dk) (A : Option Addr) (n cap : Nat) (l : List Int) (w : World) (h : RD w q d) (hz : Zw w (.slice A n cap) l) :
    Calls Try.prog 113 #[ptr q, .slice A n cap] w fun e w' => ∃ A' cap' lo, e = .returned (.slice (some A') d.n cap') ∧ OS w' (.slice (some A') d.n cap') lo ∧ Alike lo (d.die l) ∧ Fr [] w w' := by
  obtain ⟨A0, cap0, cv, L, hb, hl, ha, hc, hA⟩ := h.form
  obtain ⟨i0, hi0, hz0, hz1, hz2⟩ := info3 Try.info129
  have hok := h.ok
  have hn1 := hok.n1
  have hn2 := hok.n2
  obtain ⟨N, hN⟩ : ∃ N, d.n = N := ⟨_, rfl⟩
  have HNd := Lib.hid hN
  rw [hN] at hb hl hn1 hn2
  have HC := Lib.hid (fun W (hf : Fr [] w W) => (show W.cell? ⟨q, 0, none⟩ = some (.slice (some A0) N cap0) from hf.cell_some (hb.cell 0) (by simp)))
  have HG := Lib.hid (fun i (hi : i < N) => ha.get (i := i) (by rw [hN]; exact hi))
  have HL := Lib.hid (fun W (hf : Fr [] w W) i o (hi : L[i]? = some o) => (hl.fr hf (NoO.nil _)).cell hi)
  have HCh := Lib.hid (fun W (hf : Fr [] w W) (i : Nat) => choice_any A n cap l i W (hz.fr hf (NoZ.nil _)))
  have Hok := Lib.hid hok
  have Hst : Hid (AfR w (w.alloc (.cells #[] 129)) d l (.slice (some ⟨w.heap.size, 0, none⟩) 0 0) 0) := Lib.hid ⟨[], rfl, World.ownsRow_made w #[] 0 (Nat.le_refl _) (by simp [maxLen]) (by simp), (fun i o hi => by simp at hi), (Fr.refl [] w).alloc _⟩
  clear h hz hb hl ha hc hok hN
  obtain ⟨ab, ao, asp⟩ := A0
  simp only at hA
  subst hA
  go_enter Try.func113, Try.ntmps113
  go_wp2_with fail
  go_loopg [5, 6] N (fun gg vo vi wr => ∃ (k : Nat), k + gg = N ∧ vi = .int .i64 (k : Int) ∧ AfR w wr d l vo k)
  case atStart => exact ⟨0, by omega, rfl, Hst.out⟩
  case round =>
    obtain ⟨k, hk, rfl, lo, hlo, ho, hq, hf⟩ := hrel
    have Hk := Lib.hid hk
    have Hlo := Lib.hid hlo
    have Hq := Lib.hid hq
    have Hf := Lib.hid hf
    obtain ⟨Ao, co, rfl⟩ := ho.shape
    unfold OOwn at ho
    rw [hlo] at ho ⊢
    have HO := Lib.hid ho
    have c0 := HC.out _ hf
    clear hk hlo hq ho
    by_cases hlt : k < N
    · have hlt' : (k : Int) < (N : Int) := by omega
      have hk0 : (0 : Int) ≤ (k : Int) := by omega
      have hwk : IntKind.i64.wrap ((k : Int) + 1) = (k : Int) + 1 := IntWalk.i64_in _ (by omega)
      obtain ⟨o, hLo, hOi⟩ := HG.out k hlt
      have HE := Lib.hid (hOi.left Hok.out l)
      obtain ⟨q', o', hqa, hqlt, x0, x1, x2⟩ := HL.out _ hf _ _ hLo
      injection hqa with hqa
      injection hqa with e1 e2 _
      subst e1 e2
      have hsf : o.sf.size = 128 := by rw [hOi.1, bs_size]
      have hwr : o.un = true → o.wr.size = 128 := fun hu => by
        have := hOi.2.1
        rw [hu] at this
        cases hdu : d.u k with
        | none => rw [hdu] at this; cases this
        | some t => rw [hOi.2.2 t hdu]; exact (Hok.out.un k t hdu).2
      have hcl := clamp_le (chAt l k)
      have HCk := Lib.hid (fun W (hh : Fr [] w W) => HCh.out W hh k)
      generalize clamp (chAt l k) = c at *
      clear hLo hOi
      obtain ⟨sf, wr_, un⟩ := o
      simp only [oc0, oc1, oc2] at x0 x1 x2
      cases un with
      | false =>
        have HE2 : Hid (OneIs ⟨sf, wr_, false⟩ (d.die l) k) := HE
        have Hns : Hid (∀ (j : Nat) (u : Value), (ocs [⟨sf, wr_, false⟩])[j]? = some u → ((wr.alloc (.cells #[.string sf, .string wr_, .bool false] 129)).alloc (.cells #[.string sf, .string wr_, .bool false] 129)).cell? ((⟨wr.heap.size + 1, 0, none⟩ : Addr).add j) = some u) := Lib.hid (by have := newsO (wr.alloc (.cells #[.string sf, .string wr_, .bool false] 129)) ⟨sf, wr_, false⟩; rw [World.size_alloc] at this; exact this)
        have Hsz : w.heap.size ≤ ((wr.alloc (.cells #[.string sf, .string wr_, .bool false] 129)).alloc (.cells #[.string sf, .string wr_, .bool false] 129)).heap.size := by have := hf.size; simp; omega
        have HO2 := Lib.hid (own_fr HO.out (((Fr.refl [] wr).alloc (.cells #[.string sf, .string wr_, .bool false] 129)).alloc (.cells #[.string sf, .string wr_, .bool false] 129)) (by simp))
        have HPush := Lib.hid (fun (v' : Value) (w' : World) (h1 : w'.ownsRow w.heap.size 129 3 v' (k + 1) (ocs lo ++ ocs [⟨sf, wr_, false⟩])) (h2 : Fr [] w w') => AfR.push (d := d) (l := l) Hq.out Hlo.out HE2.out h1 h2)
        have hm1 : k + 1 ≤ maxLen := by simp only [maxLen]; omega
        have hm2 : (k + 1) * 40 ≤ 140737488355328 := by omega
        have Hf2 := Lib.hid ((Hf.out.alloc (.cells #[.string sf, .string wr_, .bool false] 129)).alloc (.cells #[.string sf, .string wr_, .bool false] 129))
        go_wp2_with (at_builtin; go_must (refine wpList_append_own _ rfl (.tmp 41) (.tmp 43) 125 rfl w.heap.size 129 i0 (.agg #[.string ⟨#[]⟩, .string ⟨#[]⟩, .bool false]) 3 40 Try.underlying125 hi0 hz0 hz1 hz2 rfl (Nat.succ_pos 2) (.slice Ao k co) k (ocs lo) rfl HO2.out ⟨wr.heap.size + 1, 0, none⟩ 1 1 (ocs [⟨sf, wr_, false⟩]) rfl (ocs_len _) Hns.out (ocs_one _) hm1 hm2 Hsz ?_; intro v3 w3 hown3 hg3 hnn3; have hf3 := Hf2.out.own HO2.out hg3; have hE3 := HPush.out _ _ hown3 hf3; have HEnd := Lib.hid hE3; clear hE3 hf3 hown3 hg3 hnn3))
        go_roundg (N - (k + 1))
        case measure => have := Hk.out; omega
        case rel => exact ⟨k + 1, by have := Hk.out; omega, by go_num, HEnd.out⟩
      | true =>
        have hwr' := hwr rfl
        have hsf' : sf.size = 128 := hsf
        have hwr2 : wr_.size = 128 := hwr'
        have m1 := fun wx => sl_h wr_ c (c : Int) rfl wx (by omega)
        have m2 := fun wx => (sl_l sf c (c : Int) rfl wx (by omega)).trans (by rw [hsf'])
        have hP1 : (wr_.extract 0 c).size = c := by rw [ByteArray.size_extract]; omega
        have hP2 : (sf.extract c 128).size = 128 - c := by rw [ByteArray.size_extract]; omega
        have HE2 : Hid (OneIs ⟨wr_.extract 0 c ++ sf.extract c 128, ⟨#[]⟩, false⟩ (d.die l) k) := HE
        generalize wr_.extract 0 c = P1 at *
        generalize sf.extract c 128 = P2 at *
        have hcat : ¬ 9223372036854775807 < P1.size + P2.size := by omega
        clear HE hwr hwr' hwr2 hsf hsf' hP1 hP2
        generalize hPP : P1 ++ P2 = PP at *
        go_wp2_with (go_at_call 117; refine (HCk.out _ (Hf.out.alloc _)).mono ?_; rintro e w4 ⟨rfl, rfl⟩)
        go_region
        have Hns : Hid (∀ (j : Nat) (u : Value), (ocs [⟨PP, ⟨#[]⟩, false⟩])[j]? = some u → (((wr.alloc (.cells #[.string PP, .string ⟨#[]⟩, .bool false] 129)).drew).alloc (.cells #[.string PP, .string ⟨#[]⟩, .bool false] 129)).cell? ((⟨wr.heap.size + 1, 0, none⟩ : Addr).add j) = some u) := Lib.hid (by have := newsO ((wr.alloc (.cells #[.string PP, .string ⟨#[]⟩, .bool false] 129)).drew) ⟨PP, ⟨#[]⟩, false⟩; rw [show ((wr.alloc (.cells #[.string PP, .string ⟨#[]⟩, .bool false] 129)).drew).heap.size = wr.heap.size + 1 by show (World.alloc _ _).heap.size = _; rw [World.size_alloc]] at this; exact this)
        have Hsz : w.heap.size ≤ (((wr.alloc (.cells #[.string PP, .string ⟨#[]⟩, .bool false] 129)).drew).alloc (.cells #[.string PP, .string ⟨#[]⟩, .bool false] 129)).heap.size := by have := hf.size; simp; omega
        have HO2 := Lib.hid (own_fr HO.out (((Fr.refl [] wr).alloc (.cells #[.string PP, .string ⟨#[]⟩, .bool false] 129)).drew.alloc (.cells #[.string PP, .string ⟨#[]⟩, .bool false] 129)) (by simp))
        have HPush := Lib.hid (fun (v' : Value) (w' : World) (h1 : w'.ownsRow w.heap.size 129 3 v' (k + 1) (ocs lo ++ ocs [⟨PP, ⟨#[]⟩, false⟩])) (h2 : Fr [] w w') => AfR.push (d := d) (l := l) Hq.out Hlo.out HE2.out h1 h2)
        have hm1 : k + 1 ≤ maxLen := by simp only [maxLen]; omega
        have hm2 : (k + 1) * 40 ≤ 140737488355328 := by omega
        have Hf2 := Lib.hid ((Hf.out.alloc (.cells #[.string PP, .string ⟨#[]⟩, .bool false] 129)).drew.alloc (.cells #[.string PP, .string ⟨#[]⟩, .bool false] 129))
        go_wp2_with (at_builtin; go_must (refine wpList_append_own _ rfl (.tmp 41) (.tmp 43) 125 rfl w.heap.size 129 i0 (.agg #[.string ⟨#[]⟩, .string ⟨#[]⟩, .bool false]) 3 40 Try.underlying125 hi0 hz0 hz1 hz2 rfl (Nat.succ_pos 2) (.slice Ao k co) k (ocs lo) rfl HO2.out ⟨wr.heap.size + 1, 0, none⟩ 1 1 (ocs [⟨PP, ⟨#[]⟩, false⟩]) rfl (ocs_len _) Hns.out (ocs_one _) hm1 hm2 Hsz ?_; intro v3 w3 hown3 hg3 hnn3; have hf3 := Hf2.out.own HO2.out hg3; have hE3 := HPush.out _ _ hown3 hf3; have HEnd := Lib.hid hE3; clear hE3 hf3 hown3 hg3 hnn3))
        go_roundg (N - (k + 1))
        case measure => have := Hk.out; omega
        case rel => exact ⟨k + 1, by have := Hk.out; omega, by go_num, HEnd.out⟩
    · have hlt' : ¬ (k : Int) < (N : Int) := by omega
      obtain rfl : N = k := by have := Hk.out; omega
      obtain ⟨g, cap', e1, -, h1, h2, hob⟩ := OOwn.ob (l := lo) (v := .slice Ao N co) (by unfold OOwn; rw [Hlo.out]; exact HO.out) (fun h => by have := Hlo.out; rw [h] at this; simp at this; omega)
      rw [Hlo.out] at e1
      injection e1 with e1 _ e2
      subst e1 e2
      have hos := hob.os h1 h2
      rw [Hlo.out] at hos
      have Hos := Lib.hid hos
      clear hob h1 h2 hos
      go_wp2_with fail
      go_ret
      exact ⟨_, _, by rw [HNd.out]; rfl, lo, by rw [HNd.out]; exact Hos.out, ⟨Hlo.out.trans HNd.out.symm, Hq.out⟩, Hf.out⟩
end Go.Proofs.Ythmnloapjdalpaa

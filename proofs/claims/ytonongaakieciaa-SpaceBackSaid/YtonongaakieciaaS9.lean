/- The bytes of a partition's frames: all. Which spaces are sound. -/
import Derived.Test.YtonongaakieciaaS8
import Derived.Lib.AppendStr
namespace Go.Proofs.Ytonongaakieciaa
open Go.RowKit
set_option linter.unusedVariables false
set_option linter.unusedSimpArgs false
set_option maxRecDepth 100000
/-- A sound space: every table leads to frames of the memory, no two to one; what is there may be read. -/
structure SpOk (x : Sp) : Prop where
  n1 : ∀ (i : Nat) (t : List Pg), x.tb[i]? = some t → 1 ≤ t.length
  ok : ∀ (i : Nat) (t : List Pg), x.tb[i]? = some t → okT x.st.n t = true
  pg : ∀ (i : Nat) (t : List Pg), x.tb[i]? = some t → ∀ p ∈ t, 0 ≤ p.f ∧ (p.r = 3 ∨ p.r = 5)
  ap : ∀ (i : Nat) (t : List Pg) (j : Nat) (p : Pg) (i' : Nat) (t' : List Pg) (j' : Nat) (p' : Pg), x.tb[i]? = some t → t[j]? = some p → x.tb[i']? = some t' → t'[j']? = some p' → p.f = p'.f → i = i' ∧ j = j'
/-- The cells of bytes. -/
def cB (l : List UInt8) : List Value := l.map fun c => .int .u8 (c.toNat : Int)
theorem cB_str (s : ByteArray) : Go.Lib.strCells s = cB s.data.toList := by
  unfold Go.Lib.strCells cB
  simp
/-- The bytes of the first frames of a table. -/
def allL (st : St) (t : List Pg) (k : Nat) : List UInt8 := (t.take k).flatMap fun p => frB st p.f.toNat
theorem allL_succ {st : St} {t : List Pg} {k : Nat} {p : Pg} (h : t[k]? = some p) : allL st t (k + 1) = allL st t k ++ frB st p.f.toNat := by
  unfold allL
  rw [List.take_add_one, h, Option.toList_some, List.flatMap_append]
  simp
theorem allL_len (st : St) (t : List Pg) : ∀ k, k ≤ t.length → (allL st t k).length = 256 * k := by
  intro k
  induction k with
  | zero => intro _; rfl
  | succ k ih =>
    intro h
    obtain ⟨p, hp⟩ : ∃ p, t[k]? = some p := ⟨_, List.getElem?_eq_getElem (by omega)⟩
    rw [allL_succ hp, List.length_append, ih (by omega), frB_len]
    omega
def allS (x : Sp) (i : Int) : ByteArray := ⟨(allL x.st (tbOf x i) (tbOf x i).length).toArray⟩
/-- What the loop keeps. -/
structure AlI (w : World) (st : St) (t : List Pg) (k : Nat) (v : Value) (wr : World) : Prop where
  own : wr.ownsRow w.heap.size 5 1 v (256 * k) (cB (allL st t k))
  fr : Fr [] w wr
theorem AlI.push {w w' : World} {st : St} {t : List Pg} {k f : Nat} {v' : Value} {p : Pg} (hp : t[k]? = some p) (hf : p.f.toNat = f) (ho : w'.ownsRow w.heap.size 5 1 v' (256 * k + (frS st f).size) (cB (allL st t k) ++ Go.Lib.strCells (frS st f))) (hfr : Fr [] w w') : AlI w st t (k + 1) v' w' := by
  refine ⟨?_, hfr⟩
  rw [frS_size, cB_str, frS_list] at ho
  rw [allL_succ hp, hf, show 256 * (k + 1) = 256 * k + 256 by omega]
  unfold cB at ho ⊢
  rw [List.map_append]
  exact ho
set_option maxHeartbeats 2000000 in
theorem all_any (s p F g : Nat) (x : Sp) (i : Int) (w : World) (h : SpAt w s p F g x) (hok : SpOk x) (hi : hasP x i = true) : Calls Try.prog 18 #[ptr s, .int .i64 i] w fun e w' => e = .returned (.string (allS x i)) ∧ Fr [] w w' := by
  obtain ⟨i0, hi0, hz0, hz1, hz2⟩ := info3 Try.info5
  have hT := fun W (hf : Fr [] w W) => Table_any s p F g x i W (h.to hf) hok.n1
  have HT := Lib.hid hT
  have HMm := Lib.hid (fun W (hf : Fr [] w W) => Memory_any s p F g x W (h.to hf))
  obtain ⟨k0, t, rfl, hk⟩ := hasP_some hi
  obtain ⟨-, hto⟩ := tbOf_some hk
  have hFr := Lib.hid (fun W (hf : Fr [] w W) (j : Nat) (q : Pg) (hq : t[j]? = some q) => (show Calls Try.prog 48 #[ptr p, .int .i64 q.f] W fun e w' => e = .returned (.tuple #[.string (frS x.st q.f.toNat), .int .i64 0]) ∧ W = w' from by
    have h1 := hok.ok k0 t hk
    obtain ⟨g1, g2, -⟩ := okT_at h1 hq
    obtain ⟨g3, -⟩ := hok.pg k0 t hk q (List.mem_of_getElem? hq)
    have := Frame_ok p F x.st W q.f.toNat (h.to hf).mem (by omega)
    rwa [show ((q.f.toNat : Nat) : Int) = q.f from by omega] at this))
  have hn1 := hok.n1 k0 t hk
  have hn3 := h.n3 k0 t hk
  have E : Hid (allS x (k0 : Int) = ⟨(allL x.st t t.length).toArray⟩) := Lib.hid (by unfold allS; rw [hto])
  have Hst : Hid (AlI w x.st t 0 (.slice (some ⟨w.heap.size, 0, none⟩) 0 0) (w.alloc (.cells #[] 5))) := Lib.hid ⟨World.ownsRow_made w #[] 0 (Nat.le_refl _) (by simp [maxLen]) (by simp), (Fr.refl [] w).alloc _⟩
  have HL := Lib.hid (allL_len x.st t t.length (Nat.le_refl _))
  have HP := Lib.hid hi
  have Hto := Lib.hid hto
  rw [E.out]
  clear h hok hi hk hto E hT
  generalize hst : x.st = st at *
  generalize hm : t.length = m at *
  go_enter Try.func18, Try.ntmps18
  go_wp2_with (first
    | (go_at_call 51; refine (HT.out _ ((Fr.refl [] w).alloc _)).mono ?_; rintro e w1 (⟨h0, -⟩ | ⟨-, g', rfl, hB, hf1, -⟩); (exact absurd (h0.symm.trans HP.out) (by decide)); rw [Hto.out] at hB ⊢; have HB := Lib.hid hB; have HF := Lib.hid (((Fr.refl [] w).alloc _).trans hf1); have HF1 := Lib.hid hf1; clear hB hf1)
    | (go_at_call 52; refine (HMm.out _ HF.out).mono ?_; rintro e w2 ⟨rfl, rfl⟩)
    | fail)
  have HSt1 : Hid (AlI w st t 0 (.slice (some ⟨w.heap.size, 0, none⟩) 0 0) w1) := Lib.hid ⟨own_fr Hst.out.own HF1.out (by simp), HF.out⟩
  go_loopg [5, 8] m (fun gg vo vi wr => ∃ (k : Nat), k + gg = m ∧ vi = .int .i64 (k : Int) ∧ PB wr g' t ∧ AlI w st t k vo wr)
  case atStart => exact ⟨0, by omega, rfl, HB.out, HSt1.out⟩
  case round =>
    obtain ⟨k, hk, rfl, hB, ho, hf⟩ := hrel
    have Hk := Lib.hid hk
    have Hf := Lib.hid hf
    have HBr := Lib.hid hB
    obtain ⟨Ao, co, rfl⟩ := own_shape ho
    have HO := Lib.hid ho
    clear ho hk Hst HSt1
    by_cases hlt : k < m
    · have hlt' : (k : Int) < (m : Int) := by omega
      have hk0 : (0 : Int) ≤ (k : Int) := by omega
      have hwk : IntKind.i64.wrap ((k : Int) + 1) = (k : Int) + 1 := IntWalk.i64_in _ (by omega)
      obtain ⟨⟨f, r⟩, hq⟩ : ∃ q, t[k]? = some q := ⟨_, List.getElem?_eq_getElem (by omega)⟩
      have c0 := (hB.cells hq).1
      simp only at c0
      have HC := hFr.out wr hf k _ hq
      simp only at HC
      have HFrm := Lib.hid HC
      have hm1 : 256 * k + (frS st f.toNat).size ≤ maxLen := by rw [frS_size]; simp only [maxLen]; omega
      have hm2 : 256 * k + (frS st f.toNat).size ≤ 140737488355328 := by rw [frS_size]; omega
      have Hsz := hf.size
      have HPush := Lib.hid (fun (v' : Value) (w' : World) (h1 : w'.ownsRow w.heap.size 5 1 v' (256 * k + (frS st f.toNat).size) (cB (allL st t k) ++ Go.Lib.strCells (frS st f.toNat))) (h2 : Fr [] w w') => AlI.push hq rfl h1 h2)
      clear hq HC hf hB hm
      generalize f.toNat = fn at *
      generalize frS st fn = S at *
      go_wp2_with (first
        | (go_at_call 48; refine HFrm.out.mono ?_; rintro e w3 ⟨rfl, rfl⟩)
        | (at_builtin; go_must (refine Go.Lib.wpList_append_own_string _ rfl (.tmp 33) (.tmp 34) 118 9 rfl w.heap.size 5 i0 Try.underlying118 Try.underlying9 hi0 hz0 hz1 hz2 (.slice Ao (256 * k) co) (256 * k) (cB (allL st t k)) rfl HO.out S rfl hm1 hm2 Hsz ?_; intro v3 w3 hown3 hg3 hnn3; have HG3 := Lib.hid hg3; have hf3 := Hf.out.own HO.out hg3; have hE3 := HPush.out _ _ hown3 hf3; have HEnd := Lib.hid hE3; clear hE3 hf3 hown3 hg3 hnn3))
        | fail)
      go_roundg (m - (k + 1))
      case measure => have := Hk.out; omega
      case rel => exact ⟨k + 1, by have := Hk.out; omega, by go_num, HBr.out.fr (Fr.of_own HG3.out) (fun hm => by
        obtain ⟨_, cs, hb⟩ := own_blk HO.out _ hm
        obtain ⟨cs', hb', -⟩ := HBr.out
        exact absurd (hb.eq hb').1 (by decide)), HEnd.out⟩
    · have hlt' : ¬ (k : Int) < (m : Int) := by omega
      obtain rfl : m = k := by have := Hk.out; omega
      have hv : (.slice Ao (256 * m) co : Value) ≠ .slice none 0 0 := fun h => by injection h with _ h _; omega
      obtain ⟨g0, cap', cs, e1, h1, h2, h2', h3, h4⟩ := own_some HO.out hv
      injection e1 with e1 _ e2
      subst e1 e2
      have hcv := conv_list (g := g0) (o := 0) (n := 256 * m) (cap := co) (allL st t m) (by have := HL.out; omega) (fun j c hj => by
        rw [Nat.zero_add, h3.cell]
        refine h4 j _ ?_
        unfold cB
        rw [List.getElem?_map, hj]
        rfl)
      clear h1 h2 h2' h3 h4 hv hf hB
      go_wp2_with fail
      go_ret
      exact ⟨rfl, Hf.out⟩
end Go.Proofs.Ytonongaakieciaa

/- The cache's library functions: Clone, IndexFunc; the closures. -/
import Derived.Test.YthmnloapjdalpaaD1
namespace Go.Proofs.Ythmnloapjdalpaa
open Go.RowKit
set_option linter.unusedVariables false
set_option linter.unusedSimpArgs false
theorem Try.info117 : (Try.prog.info? 117).map (fun i => (i.zero, i.size, i.bytes)) = some (some (.agg #[.int .i64 0, .string ⟨#[]⟩, .int .i64 0]), 3, 32) := by kernel_rfl
/-- Blocks of the cache in memory of one's own. -/
def KOwn (B : Nat) (w : World) (v : Value) (l : List Kp) : Prop := w.ownsRow B 117 3 v l.length (kcs l)
theorem KOwn.shape {B : Nat} {w : World} {v : Value} {l : List Kp} (h : KOwn B w v l) : ∃ A cap, v = .slice A l.length cap := own_shape h
theorem KOwn.kept {B : Nat} {w w' : World} {v : Value} {l : List Kp} (h : KOwn B w v l) (hf : Fr [] w w') : KOwn B w' v l := by
  rcases h with ⟨h0, h1⟩
  refine ⟨h0, ?_⟩
  rcases h1 with h1 | ⟨g, cap, cur, e, h2, h3, h4⟩
  · exact .inl h1
  · refine .inr ⟨g, cap, cur, e, h2, ?_, h4⟩
    exact (hf.block g (Array.getElem?_eq_some_iff.1 h3).1 (by simp)).trans h3
theorem KOwn.ks {B : Nat} {w : World} {v : Value} {l : List Kp} (h : KOwn B w v l) : KS w v l := by
  by_cases hv : v = .slice none 0 0
  · have : l = [] := by
      rcases h.2 with ⟨h1, h2⟩ | ⟨g, cap, cur, h1, -⟩
      · exact List.eq_nil_of_length_eq_zero (by omega)
      · rw [hv] at h1
        cases h1
    subst this
    rw [hv]
    exact KS.nil w
  · obtain ⟨g, cap, cs, rfl, h1, h2, h3, h4, h5⟩ := own_some h hv
    refine ⟨_, cap, rfl, h2, h3, (fun h => by cases h), .inr ⟨g, 0, cs, _, rfl, h4, fun j k hj => ?_⟩⟩
    obtain ⟨c0, c1, c2⟩ := kcs_get l j k hj
    rw [Nat.zero_add]
    exact ⟨h5 _ _ c0, h5 _ _ c1, h5 _ _ c2⟩
theorem KS.news {w : World} {ad : Addr} {n cap : Nat} {l : List Kp} (h : KS w (.slice (some ad) n cap) l) : ∀ (j : Nat) (u : Value), (kcs l)[j]? = some u → w.cell? (ad.add j) = some u := by
  intro j u hu
  have hj : j < l.length * 3 := by
    have := (List.getElem?_eq_some_iff.1 hu).1
    rwa [kcs_len] at this
  have hx : l[j / 3]? = some (l[j / 3]'(by omega)) := List.getElem?_eq_getElem (by omega)
  obtain ⟨q, o, ha, hq, c0, c1, c2⟩ := h.cell hx
  obtain ⟨k0, k1, k2⟩ := kcs_get l _ _ hx
  injection ha with ha
  subst ha
  rw [addr_add]
  have h3 : j = j / 3 * 3 ∨ j = j / 3 * 3 + 1 ∨ j = j / 3 * 3 + 2 := by omega
  rcases h3 with e | e | e
  · rw [← e] at k0 c0
    rw [k0] at hu
    injection hu with hu
    rw [← hu]
    exact c0
  · rw [← e] at k1
    rw [k1] at hu
    injection hu with hu
    rw [← hu]
    rw [show o + j = o + j / 3 * 3 + 1 by omega]
    exact c1
  · rw [← e] at k2
    rw [k2] at hu
    injection hu with hu
    rw [← hu]
    rw [show o + j = o + j / 3 * 3 + 2 by omega]
    exact c2
def CloneK (w : World) (l : List Kp) (e : Ending) (w' : World) : Prop := ∃ A cap, e = .returned (.slice A l.length cap) ∧ KOwn w.heap.size w' (.slice A l.length cap) l ∧ Fr [] w w'
theorem cloneK_any (A : Option Addr) (n cap : Nat) (l : List Kp) (w : World) (h : KS w (.slice A n cap) l) (hl : l.length ≤ 100) : Calls Try.prog 76 #[.slice A n cap] w (CloneK w l) := by
  have hn : n = l.length := by
    obtain ⟨A', cap', h1, -⟩ := h
    injection h1
  cases A with
  | none =>
    have hl0 : l = [] := by
      obtain ⟨A', cap', e1, -, -, e4, -⟩ := h
      injection e1 with e1 _ _
      exact e4 e1.symm
    subst hl0
    have hn0 : n = 0 := hn
    subst hn0
    have hnil := fun w => Lib.run_eql_slice_nil (P := Try.prog) w 111 117 none 0 cap 0 0 Try.underlying111
    clear h hn
    go_enter Try.func76, Try.ntmps76
    go_wp2
    go_ret
    exact ⟨none, 0, rfl, World.ownsRow_nil w _ 117 3, Fr.refl _ _⟩
  | some ad =>
    obtain ⟨i0, hi0, hz0, hz1, hz2⟩ := info3 Try.info117
    have hnil := fun w => Lib.run_eql_slice_nil (P := Try.prog) w 111 117 (some ad) n cap 0 0 Try.underlying111
    have Hf0 := Lib.hid ((Fr.refl [] w).alloc (.cells #[] 117))
    have hm0 : (w.alloc (.cells #[] 117)).ownsRow w.heap.size 117 3 (.slice (some ⟨w.heap.size, 0, none⟩) 0 0) 0 [] := World.ownsRow_made w #[] 0 (Nat.le_refl _) (by simp [maxLen]) (by simp)
    have Hm0 := Lib.hid hm0
    have Hcell := Lib.hid ((h.fr Hf0.out (NoK.nil _)).news)
    have Hn := Lib.hid hn
    clear hm0 h hn
    go_enter Try.func76, Try.ntmps76
    go_wp2_with (at_builtin; go_must (refine wpList_append_own _ rfl (.tmp 5) (.tmp 6) 111 rfl w.heap.size 117 i0 (.agg #[.int .i64 0, .string ⟨#[]⟩, .int .i64 0]) 3 32 Try.underlying111 hi0 hz0 hz1 hz2 rfl (by decide) _ _ _ rfl Hm0.out _ n cap (kcs l) rfl (by rw [kcs_len, Hn.out]) Hcell.out (kcs_one _) (by simp only [maxLen]; have := Hn.out; omega) (by have := Hn.out; omega) (by simp) ?_; intro v1 w1 hown1 hg1 hnn; have hf1 := Hf0.out.own Hm0.out hg1))
    go_ret
    simp only [List.nil_append, Nat.zero_add] at hown1
    obtain ⟨A', cap', rfl⟩ := own_shape hown1
    rw [Hn.out] at hown1
    refine ⟨A', cap', ?_, hown1, hf1⟩
    rw [Hn.out]
    rfl
abbrev kv (k : Kp) : Value := .agg #[.int .i64 k.at_, .string k.data, .int .i64 k.stamp]
theorem touch1_any (k o : Kp) (b : Nat) (w : World) (hb : w.cell? ⟨b, 0, none⟩ = some (.int .i64 k.at_)) : Calls Try.prog 101 #[kv o, ptr b] w fun e w' => e = .returned (.bool (decide (o.at_ = k.at_))) ∧ Fr [] w w' := by
  have hb' := ((Fr.refl [] w).alloc (.cells #[.int .i64 o.at_, .string o.data, .int .i64 o.stamp] 117)).cell_some hb (by simp)
  have HF := Lib.hid ((Fr.refl [] w).alloc (.cells #[.int .i64 o.at_, .string o.data, .int .i64 o.stamp] 117))
  generalize k.at_ = ka at *
  go_enter Try.func101, Try.ntmps101
  go_wp2
  go_ret
  exact ⟨by first | rfl | simp, HF.out⟩
theorem read1k_any (i : Int) (o : Kp) (b : Nat) (w : World) (hb : w.cell? ⟨b, 0, none⟩ = some (.int .i64 i)) : Calls Try.prog 63 #[kv o, ptr b] w fun e w' => e = .returned (.bool (decide (o.at_ = i))) ∧ Fr [] w w' := by
  have hb' := ((Fr.refl [] w).alloc (.cells #[.int .i64 o.at_, .string o.data, .int .i64 o.stamp] 117)).cell_some hb (by simp)
  have HF := Lib.hid ((Fr.refl [] w).alloc (.cells #[.int .i64 o.at_, .string o.data, .int .i64 o.stamp] 117))
  go_enter Try.func63, Try.ntmps63
  go_wp2
  go_ret
  exact ⟨by first | rfl | simp, HF.out⟩
/-- Where the first one is that a test takes; -1: nowhere. -/
def IdxP (l : List Kp) (pr : Kp → Bool) (i : Int) : Prop := (i = -1 ∧ ∀ k, k ∈ l → pr k = false) ∨ ∃ j k, i = ((j : Nat) : Int) ∧ l[j]? = some k ∧ pr k = true ∧ ∀ j' k', j' < j → l[j']? = some k' → pr k' = false
set_option maxRecDepth 100000 in
theorem indexF_any (A : Option Addr) (n cap : Nat) (l : List Kp) (F : FuncId) (caps : Array Value) (pr : Kp → Bool) (w : World) (h : KS w (.slice A n cap) l) (hl : l.length ≤ 100)
    (eF : ∀ args W, (callFunc F args).run Try.prog W = .ok (.enter F args) W)
    (hC : ∀ (k : Kp) (W : World), Fr [] w W → Calls Try.prog F (#[kv k] ++ caps) W fun e w' => e = .returned (.bool (pr k)) ∧ Fr [] W w') :
    Calls Try.prog 62 #[.slice A n cap, .func (.func F) #[] caps] w fun e w' => ∃ i, e = .returned (.int .i64 i) ∧ IdxP l pr i ∧ Fr [] w w' := by
  have hn : n = l.length := by
    obtain ⟨A', cap', h1, -⟩ := h
    injection h1
  have H := Lib.hid h
  have HC := Lib.hid hC
  have Hn := Lib.hid hn
  have Hl := Lib.hid hl
  clear h hC hn hl
  go_enter Try.func62, Try.ntmps62
  go_wp2_with fail
  go_loopg [8] n (fun gg v wr => ∃ k : Nat, k + gg = n ∧ v = .int .i64 (k : Int) ∧ (∀ j' k', j' < k → l[j']? = some k' → pr k' = false) ∧ Fr [] w wr)
  case atStart => exact ⟨0, by omega, rfl, fun j' k' h => by omega, Fr.refl _ _⟩
  case round =>
    obtain ⟨k, hk, rfl, hno, hfr⟩ := hrel
    have Hk := Lib.hid hk
    have Hno := Lib.hid hno
    have Hfr := Lib.hid hfr
    clear hk hno hfr
    by_cases hlt : k < n
    · have hlt' : (k : Int) < (n : Int) := by omega
      have hk0 : (0 : Int) ≤ (k : Int) := by omega
      have hw : IntKind.i64.wrap ((k : Int) + 1) = (k : Int) + 1 := IntWalk.i64_in _ (by have := Hn.out; have := Hl.out; omega)
      obtain ⟨x, hx⟩ : ∃ x, l[k]? = some x := ⟨_, List.getElem?_eq_getElem (by have := Hn.out; omega)⟩
      obtain ⟨q, o, rfl, hq, c0, c1, c2⟩ := (H.out.fr Hfr.out (NoK.nil _)).cell hx
      have hcall := Lib.hid (HC.out x wr Hfr.out)
      have Hx := Lib.hid hx
      clear hx
      cases hp : pr x with
      | true =>
        rw [hp] at hcall
        go_wp2_with (first | (refine hcall.out.mono ?_; rintro e w2 ⟨rfl, hf2⟩))
        go_ret
        exact ⟨k, rfl, .inr ⟨k, x, rfl, Hx.out, hp, Hno.out⟩, Hfr.out.trans hf2⟩
      | false =>
        rw [hp] at hcall
        go_wp2_with (first | (refine hcall.out.mono ?_; rintro e w2 ⟨rfl, hf2⟩))
        go_roundg (n - (k + 1))
        case measure => have := Hk.out; omega
        case rel =>
          refine ⟨k + 1, by have := Hk.out; omega, by go_num, fun j' k' hj hx => ?_, Hfr.out.trans hf2⟩
          by_cases hjk : j' = k
          · subst hjk
            rw [Hx.out] at hx
            injection hx with hx
            rw [← hx]
            exact hp
          · exact Hno.out j' k' (by omega) hx
    · have hlt' : ¬ (k : Int) < (n : Int) := by omega
      go_wp2_with fail
      go_ret
      refine ⟨-1, rfl, .inl ⟨rfl, fun x hx => ?_⟩, Hfr.out⟩
      obtain ⟨j, hj⟩ := List.mem_iff_getElem?.1 hx
      have hjn : j < l.length := (List.getElem?_eq_some_iff.1 hj).1
      exact Hno.out j x (by have := Hn.out; omega) hj
end Go.Proofs.Ythmnloapjdalpaa

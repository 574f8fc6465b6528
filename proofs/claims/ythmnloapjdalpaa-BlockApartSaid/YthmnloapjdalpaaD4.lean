/- The cache: touch. -/
import Derived.Test.YthmnloapjdalpaaD3
namespace Go.Proofs.Ythmnloapjdalpaa
open Go.RowKit
set_option linter.unusedVariables false
set_option linter.unusedSimpArgs false
def touchR (l : List Kp) (k : Kp) : List Kp := (l.filter fun o => !decide (o.at_ = k.at_)) ++ [k]
def touchL (l : List Kp) (k : Kp) (c : Nat) : List Kp := (touchR l k).drop ((touchR l k).length - c)
def Bv.touch (b : Bv) (k : Kp) : Bv := { b with cache := touchL b.cache k b.cached }
theorem touchR_len (l : List Kp) (k : Kp) : (touchR l k).length ≤ l.length + 1 := by
  unfold touchR
  rw [List.length_append]
  have := List.length_filter_le (fun o => !decide (o.at_ = k.at_)) l
  simp
  omega
theorem Bv.Ok.touch {b : Bv} (h : b.Ok) (k : Kp) : (b.touch k).Ok := ⟨h.f, h.c, h.k, by
  show (touchL b.cache k b.cached).length ≤ 16
  unfold touchL
  rw [List.length_drop]
  have := h.k
  omega⟩
theorem enter101 (args : Array Value) (W : World) : (callFunc 101 args).run Try.prog W = .ok (.enter 101 args) W := by kernel_rfl
theorem enter63 (args : Array Value) (W : World) : (callFunc 63 args).run Try.prog W = .ok (.enter 63 args) W := by kernel_rfl
/-- A slice's end. -/
theorem KS.drop {w : World} {A : Option Addr} {n cap : Nat} {l : List Kp} (h : KS w (.slice A n cap) l) {lo : Nat} (hlo : lo ≤ n) (hA : A ≠ none) : ∃ A', (∀ wx, (Instr.slice 111 (.slice A n cap) (some (.int .i64 (lo : Int))) none none).run Try.prog wx = .ok (.slice A' (n - lo) (cap - lo)) wx) ∧ KS w (.slice A' (n - lo) (cap - lo)) (l.drop lo) := by
  obtain ⟨A0, cap0, e1, h2, h3, h4, h5⟩ := h
  injection e1 with e1 en ec
  subst e1 ec
  have hl : (l.drop lo).length = n - lo := by rw [List.length_drop, en]
  obtain ⟨ad, rfl⟩ : ∃ ad, A = some ad := by
    cases A with
    | none => exact absurd rfl hA
    | some ad => exact ⟨ad, rfl⟩
  refine ⟨if cap = lo then some ad else (some ad).map (·.add (lo * 3)), fun wx => ?_, ?_⟩
  · rw [run_slice_l (P := Try.prog) wx 111 (some ad) n cap (by rw [elem111]; exact Try.underlying111) .i64 lo (by omega) (by omega), elem111, sizeOf117]
    simp [Result.andThen, sliced]
  · refine ⟨_, cap - lo, by rw [hl], by rw [hl]; omega, by omega, fun h => ?_, ?_⟩
    · split at h <;> cases h
    · by_cases hle : n = lo
      · left
        exact List.eq_nil_of_length_eq_zero (by omega)
      · right
        rcases h5 with h5 | ⟨q, o, cs, mk, e, h6, h7⟩
        · rw [h5] at en
          simp at en
          omega
        · injection e with e
          subst e
          refine ⟨q, o + lo * 3, cs, mk, ?_, h6, fun j k hj => ?_⟩
          · rw [if_neg (by omega)]
            simp only [Option.map_some]
            rw [addr_add]
          · rw [List.getElem?_drop] at hj
            obtain ⟨a, b, c⟩ := h7 _ _ hj
            rw [show o + lo * 3 + j * 3 = o + (lo + j) * 3 by omega]
            exact ⟨a, b, c⟩
theorem newsK (w : World) (k : Kp) : ∀ (j : Nat) (u : Value), (kcs [k])[j]? = some u → (w.alloc (.cells #[.int .i64 k.at_, .string k.data, .int .i64 k.stamp] 117)).cell? ((⟨w.heap.size, 0, none⟩ : Addr).add j) = some u := by
  intro j u hu
  have hb := Blk.new w 117 #[.int .i64 k.at_, .string k.data, .int .i64 k.stamp]
  rw [addr_add, Nat.zero_add, hb.cell]
  simpa [kcs, kc] using hu
theorem own_none {w : World} {B n cap : Nat} {xs : List Value} (h : w.ownsRow B 117 3 (.slice none n cap) n xs) : (.slice none n cap : Value) = .slice none 0 0 := by
  rcases h.2 with ⟨h1, h2⟩ | ⟨g, cap', cur, e, -⟩
  · exact h1
  · injection e with e
    cases e
def TouchP (w : World) (v p : Nat) (b : Bv) (e : Ending) (w' : World) : Prop := e = .returned (.tuple #[]) ∧ DevAt w' v p b ∧ Fr [v] w w'
set_option maxRecDepth 100000 in
set_option maxHeartbeats 1000000 in
theorem touch_any (v p : Nat) (b : Bv) (k : Kp) (w : World) (h : DevAt w v p b) : Calls Try.prog 64 #[ptr v, kv k] w (TouchP w v p (b.touch k)) := by
  have hfb : Fr [] w (w.alloc (.cells #[.int .i64 k.at_, .string k.data, .int .i64 k.stamp] 117)) := (Fr.refl [] w).alloc _
  have hbb := Blk.new w 117 #[.int .i64 k.at_, .string k.data, .int .i64 k.stamp]
  obtain ⟨cv, ⟨c0, c1, c2, c3, c4, c5, fz⟩, hks⟩ := (h.to hfb).cells
  have hl16 := h.ok.l
  have hk16 := h.ok.k
  obtain ⟨A0, n0, cp0, rfl⟩ : ∃ A n cp, cv = .slice A n cp := by
    obtain ⟨A, cp, e, -⟩ := hks
    exact ⟨A, _, cp, e⟩
  have HCl := Lib.hid (cloneK_any A0 n0 cp0 b.cache _ hks (by omega))
  have H := Lib.hid h
  have Hfb := Lib.hid hfb
  have HB := Lib.hid (fun W (hf : Fr [] (w.alloc (.cells #[.int .i64 k.at_, .string k.data, .int .i64 k.stamp] 117)) W) => (show W.cell? ⟨w.heap.size, 0, none⟩ = some (.int .i64 k.at_) ∧ W.cell? ⟨w.heap.size, 1, none⟩ = some (.string k.data) ∧ W.cell? ⟨w.heap.size, 2, none⟩ = some (.int .i64 k.stamp) from ⟨hf.cell_some (hbb.cell 0) (by simp), hf.cell_some (hbb.cell 1) (by simp), hf.cell_some (hbb.cell 2) (by simp)⟩))
  have HV := Lib.hid (fun W (hf : Fr [] (w.alloc (.cells #[.int .i64 k.at_, .string k.data, .int .i64 k.stamp] 117)) W) => (show W.cell? ⟨v, 3, none⟩ = some (.int .i64 b.cached) ∧ W.cell? ⟨v, 4, none⟩ = some (.slice A0 n0 cp0) from ⟨hf.cell_some c3 (by simp), hf.cell_some c4 (by simp)⟩))
  have HDl := Lib.hid (fun (W : World) (A : Option Addr) (n cp : Nat) (hf : Fr [] (w.alloc (.cells #[.int .i64 k.at_, .string k.data, .int .i64 k.stamp] 117)) W) (ho : KOwn (w.alloc (.cells #[.int .i64 k.at_, .string k.data, .int .i64 k.stamp] 117)).heap.size W (.slice A n cp) b.cache) =>
    delF_any _ A n cp b.cache 101 #[ptr w.heap.size] (fun o => decide (o.at_ = k.at_)) W hf ho (by omega) enter101 (fun o W' hf' => touch1_any k o _ W' (hf'.cell_some (hbb.cell 0) (by simp))))
  clear h hfb hbb hks c0 c1 c2 c5 fz c3
  go_enter Try.func64, Try.ntmps64
  generalize hWB : w.alloc (.cells #[.int .i64 k.at_, .string k.data, .int .i64 k.stamp] 117) = WB at *
  obtain ⟨i0, hi0, hz0, hz1, hz2⟩ := info3 Try.info117
  have HFZ := Lib.hid (fun W (hf : Fr [] w W) => (H.out.to hf).cells.choose_spec.1.fz)
  go_wp2_with (first
    | (go_at_call 76; refine HCl.out.mono ?_; rintro e w1 ⟨A1, cp1, rfl, ho1, hf1⟩)
    | (go_at_call 100; refine (HDl.out _ _ _ _ hf1 ho1).mono ?_; rintro e w2 ⟨A2, m, cp2, rfl, hm, ho2, hf2⟩; clear ho1 hf1; obtain ⟨k0, k1, k2⟩ := HB.out _ hf2; have Hm := Lib.hid hm; have Hf2 := Lib.hid hf2
       have Ho2 := Lib.hid (ho2.kept ((Fr.refl [] w2).alloc (.cells #[.int .i64 k.at_, .string k.data, .int .i64 k.stamp] 117)))
       have Hf2a := Lib.hid (hf2.alloc (.cells #[.int .i64 k.at_, .string k.data, .int .i64 k.stamp] 117)); have hsz2 := Hf2a.out.size
       have hm16 : m ≤ 16 := (by rw [hm]; exact Nat.le_trans (List.length_filter_le _ _) hl16)
       unfold KOwn at Ho2
       rw [← hm] at Ho2
       clear hm ho2 hf2)
    | (at_builtin; go_must (refine wpList_append_own _ rfl (.tmp 12) (.tmp 14) 111 rfl WB.heap.size 117 i0 (.agg #[.int .i64 0, .string ⟨#[]⟩, .int .i64 0]) 3 32 Try.underlying111 hi0 hz0 hz1 hz2 rfl (by decide) _ m _ rfl Ho2.out ⟨w2.heap.size, 0, none⟩ 1 1 (kcs [k]) rfl rfl (newsK w2 k) (kcs_one _) (by simp only [maxLen]; omega) (by omega) hsz2 ?_; intro v3 w3 hown3 hg3 hnn3; have hf3 := Hf2a.out.own Ho2.out hg3; rw [← kcs_app] at hown3; have ho3 := (show KOwn WB.heap.size w3 v3 (touchR b.cache k) from (by unfold KOwn; rw [show (touchR b.cache k).length = m + 1 from (by unfold touchR; rw [List.length_append, ← Hm.out]; rfl)]; exact hown3)); have hne3 : v3 ≠ .slice none 0 0 := (fun h => by have := hnn3.1 h; simp [kcs, kc] at this); obtain ⟨A3, cp3, rfl⟩ := own_shape hown3; obtain ⟨lo, hloE⟩ : ∃ lo, m + 1 - b.cached = lo := ⟨_, rfl⟩; obtain ⟨A4, hsl, hk4⟩ := ho3.ks.drop (lo := lo) (by omega) (fun h => by subst h; exact hne3 (by have := own_none hown3; rw [this])); obtain ⟨vc3, vc4⟩ := HV.out _ hf3; have fz := HFZ.out _ (Hfb.out.trans hf3); have hwm : IntKind.i64.wrap ((m : Int) + 1 - (b.cached : Int)) = (m : Int) + 1 - (b.cached : Int) := (IntWalk.i64_in _ (by omega)); have hlo : max (0 : Int) ((m : Int) + 1 - (b.cached : Int)) = (lo : Int) := (by omega); have HloE := Lib.hid hloE; clear hloE; have Hf3 := Lib.hid hf3; have Hk4 := Lib.hid hk4; clear hown3 hg3 hnn3 hf3 ho3 hne3 hk4)))
  go_end0
  have hbk := H.out.hd
  obtain ⟨cv0, hb0, hk0⟩ := hbk
  have hb3 := hb0.fr (Hfb.out.trans Hf3.out) (by simp)
  refine ⟨rfl, ⟨H.out.ok.touch k, _, hb3.set_ 4 _, ?_⟩, ((Hfb.out.trans Hf3.out).mono (fun j hj => by cases hj)).setCell (.inl (by simp)) _⟩
  have e1 : (b.touch k).cache = (touchR b.cache k).drop lo := by
    show touchL b.cache k b.cached = _
    unfold touchL
    have : (touchR b.cache k).length = m + 1 := by unfold touchR; rw [List.length_append, ← Hm.out]; rfl
    rw [this, HloE.out]
  rw [e1]
  exact Hk4.out.fr (S := [v]) ((Fr.refl _ _).setCell (.inl (by simp)) _) (hb3.noK (by decide))
end Go.Proofs.Ythmnloapjdalpaa

/- The cache's DeleteFunc. -/
import Derived.Test.YthmnloapjdalpaaD2
namespace Go.Proofs.Ythmnloapjdalpaa
open Go.RowKit
set_option linter.unusedVariables false
set_option linter.unusedSimpArgs false
/-- A row of blocks of the cache that may be written: so many of them, as f says. -/
def RowK (w : World) (g cap n : Nat) (f : Nat → Kp) : Prop := ∃ cs, Blk w g 117 cs ∧ cs.size = cap * 3 ∧ ∀ j, j < n → cs[j * 3]? = some (kc0 (f j)) ∧ cs[j * 3 + 1]? = some (kc1 (f j)) ∧ cs[j * 3 + 2]? = some (kc2 (f j))
theorem RowK.fr {w w' : World} {g cap n : Nat} {f : Nat → Kp} {S : List Nat} (h : RowK w g cap n f) (hf : Fr S w w') (hg : g ∉ S) : RowK w' g cap n f := by
  obtain ⟨cs, hb, h1, h2⟩ := h
  exact ⟨cs, hb.fr hf hg, h1, h2⟩
theorem RowK.cell {w : World} {g cap n : Nat} {f : Nat → Kp} (h : RowK w g cap n f) {j : Nat} (hj : j < n) : w.cell? ⟨g, j * 3, none⟩ = some (kc0 (f j)) ∧ w.cell? ⟨g, j * 3 + 1, none⟩ = some (kc1 (f j)) ∧ w.cell? ⟨g, j * 3 + 2, none⟩ = some (kc2 (f j)) := by
  obtain ⟨cs, hb, h1, h2⟩ := h
  rw [hb.cell, hb.cell, hb.cell]
  exact h2 j hj
theorem RowK.frozen {w : World} {g cap n : Nat} {f : Nat → Kp} (h : RowK w g cap n f) (j : Nat) : w.frozen? ⟨g, j, none⟩ = false := by
  obtain ⟨cs, hb, h1, h2⟩ := h
  exact hb.frozen j
theorem RowK.set_ {w : World} {g cap n : Nat} {f : Nat → Kp} (h : RowK w g cap n f) {i : Nat} (k : Kp) (hi : i < cap) : RowK (((w.setCell ⟨g, i * 3, none⟩ (kc0 k)).setCell ⟨g, i * 3 + 1, none⟩ (kc1 k)).setCell ⟨g, i * 3 + 2, none⟩ (kc2 k)) g cap n (fun j => if j = i then k else f j) := by
  obtain ⟨cs, hb, h1, h2⟩ := h
  refine ⟨_, ((hb.set_ (i * 3) (kc0 k)).set_ (i * 3 + 1) (kc1 k)).set_ (i * 3 + 2) (kc2 k), by simp [h1], fun j hj => ?_⟩
  simp only [Array.getElem?_setIfInBounds, Array.size_setIfInBounds]
  by_cases e : j = i
  · subst e
    refine ⟨?_, ?_, ?_⟩
    · rw [if_neg (by omega), if_neg (by omega), if_pos rfl, if_pos (by omega), if_pos rfl]
    · rw [if_neg (by omega), if_pos rfl, if_pos (by omega), if_pos rfl]
    · rw [if_pos rfl, if_pos (by omega), if_pos rfl]
  · obtain ⟨a, b, c⟩ := h2 j hj
    refine ⟨?_, ?_, ?_⟩
    · rw [if_neg (by omega), if_neg (by omega), if_neg (by omega), if_neg e]; exact a
    · rw [if_neg (by omega), if_neg (by omega), if_neg (by omega), if_neg e]; exact b
    · rw [if_neg (by omega), if_neg (by omega), if_neg (by omega), if_neg e]; exact c
theorem Blk.setCells {g : Nat} {t : TypeId} : ∀ (vs : List Value) (o : Nat) (w : World) (cs : Array Value), Blk w g t cs → ∃ cs', Blk (w.setCells g o vs) g t cs' ∧ cs'.size = cs.size ∧ ∀ j, j < o → cs'[j]? = cs[j]? := by
  intro vs
  induction vs with
  | nil => intro o w cs h; exact ⟨cs, h, rfl, fun _ _ => rfl⟩
  | cons v vs ih =>
    intro o w cs h
    obtain ⟨cs', h1, h2, h3⟩ := ih (o + 1) _ _ (h.set_ o v)
    refine ⟨cs', h1, by rw [h2]; simp, fun j hj => ?_⟩
    rw [h3 j (by omega), Array.getElem?_setIfInBounds, if_neg (by omega)]
theorem RowK.clear {w : World} {g cap n i : Nat} {f : Nat → Kp} (h : RowK w g cap n f) (vs : List Value) (hi : i ≤ n) : RowK (w.setCells g (i * 3) vs) g cap i f := by
  obtain ⟨cs, hb, h1, h2⟩ := h
  obtain ⟨cs', h3, h4, h5⟩ := Blk.setCells vs (i * 3) w cs hb
  refine ⟨cs', h3, by rw [h4, h1], fun j hj => ?_⟩
  rw [h5 _ (by omega), h5 _ (by omega), h5 _ (by omega)]
  exact h2 j (by omega)
theorem RowK.own {w : World} {g cap n B : Nat} {f : Nat → Kp} {l : List Kp} (h : RowK w g cap n f) (hB : B ≤ g) (hl : l.length = n) (hf : ∀ j, j < n → l[j]? = some (f j)) (hn : n ≤ cap) (hc : cap ≤ maxLen) : KOwn B w (.slice (some ⟨g, 0, none⟩) n cap) l := by
  obtain ⟨cs, hb, h1, h2⟩ := h
  unfold KOwn
  rw [hl]
  refine ⟨by rw [kcs_len, hl], .inr ⟨g, cap, cs, rfl, hB, hb, hn, hc, h1, ?_⟩⟩
  refine List.ext_getElem? fun j => ?_
  rw [List.getElem?_take]
  by_cases hj : j < n * 3
  · rw [if_pos hj]
    obtain ⟨a, b, c⟩ := h2 (j / 3) (by omega)
    obtain ⟨k0, k1, k2⟩ := kcs_get l (j / 3) (f (j / 3)) (hf _ (by omega))
    have h3 : j = j / 3 * 3 ∨ j = j / 3 * 3 + 1 ∨ j = j / 3 * 3 + 2 := by omega
    rcases h3 with e | e | e
    · rw [← e] at a k0
      rw [k0]
      simpa using a
    · rw [← e] at b k1
      rw [k1]
      simpa using b
    · rw [← e] at c k2
      rw [k2]
      simpa using c
  · rw [if_neg hj, List.getElem?_eq_none (by rw [kcs_len, hl]; omega)]
theorem KOwn.row {B : Nat} {w : World} {A : Option Addr} {n cap : Nat} {l : List Kp} (h : KOwn B w (.slice A n cap) l) (hn : n = l.length) (h0 : 0 < n) : ∃ g f, A = some ⟨g, 0, none⟩ ∧ B ≤ g ∧ RowK w g cap n f ∧ n ≤ cap ∧ cap ≤ maxLen ∧ ∀ j, j < n → l[j]? = some (f j) := by
  unfold KOwn at h
  rw [← hn] at h
  rcases h.2 with ⟨h1, h2⟩ | ⟨g, cap', cur, e, hB, hh, h3, h4, h5, h6⟩
  · omega
  · injection e with e1 _ e2
    subst e2
    have hlt : ∀ j, j < n → j < l.length := fun j hj => by omega
    refine ⟨g, fun j => (l[j]?).getD ⟨0, ⟨#[]⟩, 0⟩, e1, hB, ⟨cur, hh, h5, fun j hj => ?_⟩, h3, h4, fun j hj => by simp only [List.getElem?_eq_getElem (hlt j hj), Option.getD_some]⟩
    have hx : l[j]? = some l[j] := List.getElem?_eq_getElem (hlt j hj)
    obtain ⟨k0, k1, k2⟩ := kcs_get l j _ hx
    have get : ∀ a u, (kcs l)[a]? = some u → cur[a]? = some u := fun a u hu => by
      rw [← h6, List.getElem?_take] at hu
      split at hu
      · simpa using hu
      · cases hu
    simp only [hx, Option.getD_some]
    exact ⟨get _ _ k0, get _ _ k1, get _ _ k2⟩
theorem elem111 : Try.prog.elem 111 = 117 := by kernel_rfl
theorem sizeOf117 (w : World) : (Go.sizeOf 117).run Try.prog w = .ok 3 w := by kernel_rfl
theorem kslice_l (w : World) (g o len cap a : Nat) (la : Int) (ha : la = a) (h1 : a < len) (h2 : len ≤ cap) :
    (Instr.slice 111 (.slice (some ⟨g, o, none⟩) len cap) (some (.int .i64 la)) none none).run Try.prog w = .ok (.slice (some ⟨g, o + a * 3, none⟩) (len - a) (cap - a)) w := by
  subst ha
  rw [run_slice_l (P := Try.prog) w 111 (some ⟨g, o, none⟩) len cap (by rw [elem111]; exact Try.underlying111) .i64 a (by omega) (by omega), elem111, sizeOf117]
  have h4 : ¬ cap = a := by omega
  simp [Result.andThen, sliced, h4, Addr.add]
theorem kslice_h (w : World) (g o len cap b : Nat) (lb : Int) (hb : lb = b) (h2 : b ≤ cap) (h0 : 0 < cap) :
    (Instr.slice 111 (.slice (some ⟨g, o, none⟩) len cap) none (some (.int .i64 lb)) none).run Try.prog w = .ok (.slice (some ⟨g, o, none⟩) b cap) w := by
  subst hb
  rw [run_slice_h (P := Try.prog) w 111 (some ⟨g, o, none⟩) len cap (by rw [elem111]; exact Try.underlying111) .i64 b (by omega) (by omega), elem111, sizeOf117]
  simp [Result.andThen, sliced, Addr.add]
theorem zero117 (w : World) : (zeroValue 117).run Try.prog w = .ok (.agg #[.int .i64 0, .string ⟨#[]⟩, .int .i64 0]) w := by kernel_rfl
theorem zeros_len (m : Nat) : (Builtin.zeroCells (Value.agg #[.int .i64 0, .string ⟨#[]⟩, .int .i64 0]).cells m).toList.length = m * 3 := by
  have e : (Value.agg #[.int .i64 0, .string ⟨#[]⟩, .int .i64 0]).cells = #[.int .i64 0, .string ⟨#[]⟩, .int .i64 0] := rfl
  rw [e]
  simp [Builtin.zeroCells]
theorem zeros_one (m : Nat) : ∀ v ∈ (Builtin.zeroCells (Value.agg #[.int .i64 0, .string ⟨#[]⟩, .int .i64 0]).cells m).toList, v.oneCell' = true := by
  have e : (Value.agg #[.int .i64 0, .string ⟨#[]⟩, .int .i64 0]).cells = #[.int .i64 0, .string ⟨#[]⟩, .int .i64 0] := rfl
  rw [e]
  intro v hv
  unfold Builtin.zeroCells at hv
  rw [Array.toList_map, List.mem_map] at hv
  obtain ⟨i, -, rfl⟩ := hv
  show ((#[.int .i64 0, .string ⟨#[]⟩, .int .i64 0] : Array Value)[i % 3]!).oneCell' = true
  have h3 : i % 3 = 0 ∨ i % 3 = 1 ∨ i % 3 = 2 := by omega
  rcases h3 with h | h | h <;> rw [h] <;> rfl
theorem RowK.some_ {w : World} {g cap n : Nat} {f : Nat → Kp} (h : RowK w g cap n f) {j : Nat} (hj : j < cap * 3) : (w.cell? ⟨g, j, none⟩).isSome = true := by
  obtain ⟨cs, hb, h1, h2⟩ := h
  rw [hb.cell, Array.getElem?_eq_getElem (by omega)]
  rfl
/-- 'clear(s)': zero values from a place on; nothing else turns. -/
theorem run_clear_k (w : World) (ty : TypeId) (z : Value) (hv : ∀ w, (zeroValue 117).run Try.prog w = .ok z w) (b o n c : Nat) (hn : 0 < n) (h1 : ∀ v ∈ (Builtin.zeroCells z.cells n).toList, v.oneCell' = true)
    (hc : ∀ j, j < (Builtin.zeroCells z.cells n).toList.length → (w.cell? ⟨b, o + j, none⟩).isSome = true) (hf : ∀ j, j < (Builtin.zeroCells z.cells n).toList.length → w.frozen? ⟨b, o + j, none⟩ = false) :
    (Builtin.clear_ #[111] ty #[.slice (some ⟨b, o, none⟩) n c]).run Try.prog w = .ok (.tuple #[]) (w.setCells b o (Builtin.zeroCells z.cells n).toList) := by
  have hst := run_storeCells_cells (P := Try.prog) b o (Builtin.zeroCells z.cells n).toList 0 w (by simpa using hc) (by simpa using hf) h1
  simp only [Nat.add_zero] at hst
  obtain ⟨m, rfl⟩ : ∃ m, n = m + 1 := ⟨n - 1, by omega⟩
  simp [Builtin.clear_, run_underlying Try.underlying111, hv, hst]
theorem first_ex (pr : Kp → Bool) : ∀ l : List Kp, (∀ k, k ∈ l → pr k = false) ∨ ∃ (j : Nat) (k : Kp), l[j]? = some k ∧ pr k = true ∧ ∀ (j' : Nat) (k' : Kp), j' < j → l[j']? = some k' → pr k' = false := by
  intro l
  induction l with
  | nil => exact .inl (fun k hk => by cases hk)
  | cons a l ih =>
    cases ha : pr a with
    | true => exact .inr ⟨0, a, rfl, ha, fun j' k' h => by omega⟩
    | false =>
      rcases ih with h | ⟨j, k, h1, h2, h3⟩
      · exact .inl (fun k hk => by
          rcases List.mem_cons.1 hk with rfl | hk
          · exact ha
          · exact h k hk)
      · refine .inr ⟨j + 1, k, h1, h2, fun j' k' hj hx => ?_⟩
        cases j' with
        | zero => injection hx with hx; rw [← hx]; exact ha
        | succ j' => exact h3 j' k' (by omega) hx
theorem idx_none {l : List Kp} {pr : Kp → Bool} {i : Int} (h : IdxP l pr i) (hn : ∀ k, k ∈ l → pr k = false) : i = -1 := by
  rcases h with ⟨h1, -⟩ | ⟨j, k, -, h2, h3, -⟩
  · exact h1
  · have := hn k (List.mem_of_getElem? h2)
    rw [h3] at this
    cases this
theorem idx_some {l : List Kp} {pr : Kp → Bool} {i : Int} (h : IdxP l pr i) {a : Nat} {ka : Kp} (h1 : l[a]? = some ka) (h2 : pr ka = true) (h3 : ∀ j' k', j' < a → l[j']? = some k' → pr k' = false) : i = (a : Int) := by
  rcases h with ⟨-, h4⟩ | ⟨j, k, rfl, h4, h5, h6⟩
  · have := h4 ka (List.mem_of_getElem? h1)
    rw [h2] at this
    cases this
  · rcases Nat.lt_trichotomy j a with h | h | h
    · have := h3 j k h h4
      rw [h5] at this
      cases this
    · rw [h]
    · have := h6 a ka h h1
      rw [h2] at this
      cases this
set_option maxRecDepth 100000 in
theorem delF_any (w0 : World) (A : Option Addr) (n cap : Nat) (l : List Kp) (F : FuncId) (caps : Array Value) (pr : Kp → Bool) (w : World) (h0 : Fr [] w0 w) (h : KOwn w0.heap.size w (.slice A n cap) l) (hl : l.length ≤ 100)
    (eF : ∀ args W, (callFunc F args).run Try.prog W = .ok (.enter F args) W)
    (hC : ∀ (k : Kp) (W : World), Fr [] w0 W → Calls Try.prog F (#[kv k] ++ caps) W fun e w' => e = .returned (.bool (pr k)) ∧ Fr [] W w') :
    Calls Try.prog 100 #[.slice A n cap, .func (.func F) #[] caps] w fun e w' => ∃ A' m cap', e = .returned (.slice A' m cap') ∧ m = (l.filter fun k => !pr k).length ∧ KOwn w0.heap.size w' (.slice A' m cap') (l.filter fun k => !pr k) ∧ Fr [] w0 w' := by
  have hks := h.ks
  have hn : n = l.length := by
    obtain ⟨A', cap', h1, -⟩ := hks
    injection h1
  have hI := Lib.hid (indexF_any A n cap l F caps pr w hks hl eF (fun k W hf => hC k W (h0.trans hf)))
  have H := Lib.hid h
  have H0 := Lib.hid h0
  have HC := Lib.hid hC
  have Hn := Lib.hid hn
  have Hl := Lib.hid hl
  clear h hC hn hl h0 hks
  rcases first_ex pr l with hnone | ⟨a, ka, hka, hpa, hno⟩
  · have hI2 := Lib.hid (hI.out.mono (R' := fun e w' => e = .returned (.int .i64 (-1)) ∧ Fr [] w w') (fun e w' ⟨i, he, hx, hf⟩ => ⟨by rw [he, idx_none hx hnone], hf⟩))
    have hfl : l.filter (fun k => !pr k) = l := List.filter_eq_self.2 (fun k hk => by rw [hnone k hk]; rfl)
    clear hI hnone
    go_enter Try.func100, Try.ntmps100
    go_wp2_with (go_at_call 62; refine hI2.out.mono ?_; rintro e w1 ⟨rfl, hf1⟩)
    go_ret
    exact ⟨A, n, cap, rfl, by rw [hfl]; exact Hn.out, by rw [hfl]; exact H.out.kept hf1, H0.out.trans hf1⟩
  · have hI2 := Lib.hid (hI.out.mono (R' := fun e w' => e = .returned (.int .i64 (a : Int)) ∧ Fr [] w w') (fun e w' ⟨i, he, hx, hf⟩ => ⟨by rw [he, idx_some hx hka hpa hno], hf⟩))
    clear hI
    have hneg' : ¬ (a : Int) = -1 := by omega
    have han : a < n := by have := (List.getElem?_eq_some_iff.1 hka).1; have := Hn.out; omega
    have han2 : n ≤ 100 := by have := Hn.out; have := Hl.out; omega
    have hw1 : IntKind.i64.wrap ((a : Int) + 1) = (a : Int) + 1 := IntWalk.i64_in _ (by omega)
    obtain ⟨g, f0, rfl, hB, hrow, hcap, hmax, hf0⟩ := H.out.row Hn.out (by omega)
    have Hst := Lib.hid (show ((l.take (a + 1)).filter fun k => !pr k).length = a ∧ ∀ b, b < a → ((l.take (a + 1)).filter fun k => !pr k)[b]? = some (f0 b) by
      have e1 : l.take (a + 1) = l.take a ++ [ka] := by rw [List.take_add_one, hka]; rfl
      have e2 : (l.take a).filter (fun k => !pr k) = l.take a := List.filter_eq_self.2 (fun k hk => by
        obtain ⟨j, hj⟩ := List.mem_iff_getElem?.1 hk
        rw [List.getElem?_take] at hj
        split at hj
        · rename_i hja
          rw [hno j k hja hj]; rfl
        · cases hj)
      rw [e1, List.filter_append, e2]
      have e3 : ([ka].filter fun k => !pr k) = [] := by simp [hpa]
      rw [e3, List.append_nil]
      refine ⟨by rw [List.length_take]; have := Hn.out; omega, fun b hb => ?_⟩
      rw [List.getElem?_take, if_pos hb]
      exact hf0 b (by omega))
    have HR := Lib.hid hrow
    have Hb := Lib.hid (And.intro hB (And.intro hcap hmax))
    have Hf0 := Lib.hid hf0
    have Ha := Lib.hid (And.intro han han2)
    clear hrow hB hcap hmax hf0 hno hka hpa
    go_enter Try.func100, Try.ntmps100
    go_wp2_with (go_at_call 62; refine hI2.out.mono ?_; rintro e w1 ⟨rfl, hf1⟩; have Hf1 := Lib.hid hf1; clear hf1)
    go_loopg [5, 6] (n - (a + 1)) (fun gg vi vj wr => ∃ (i j : Nat) (f : Nat → Kp), j + gg = n ∧ i < j ∧ vi = .int .i64 (i : Int) ∧ vj = .int .i64 (j : Int) ∧ RowK wr g cap n f ∧ Fr [] w0 wr ∧
      ((l.take j).filter fun k => !pr k).length = i ∧ (∀ b, b < i → ((l.take j).filter fun k => !pr k)[b]? = some (f b)) ∧ ∀ b, j ≤ b → b < n → l[b]? = some (f b))
    case atStart => exact ⟨a, a + 1, f0, by have := Ha.out; omega, by omega, rfl, by go_num, HR.out.fr Hf1.out (by simp), H0.out.trans Hf1.out, Hst.out.1, Hst.out.2, fun b _ h2 => Hf0.out b h2⟩
    case round =>
      obtain ⟨i, j, f, hj, hij, rfl, rfl, hrow, hfr, hlen, hpre, hsuf⟩ := hrel
      have Hj := Lib.hid (And.intro hj hij)
      have Hrow := Lib.hid hrow
      have Hfr := Lib.hid hfr
      have Hlen := Lib.hid hlen
      have Hpre := Lib.hid hpre
      have Hsuf := Lib.hid hsuf
      clear hj hij hrow hfr hlen hpre hsuf HR Hst
      by_cases hlt : j < n
      · have hlt' : (j : Int) < (n : Int) := by omega
        have hj0 : (0 : Int) ≤ (j : Int) := by omega
        have hwj : IntKind.i64.wrap ((j : Int) + 1) = (j : Int) + 1 := IntWalk.i64_in _ (by have := Ha.out; omega)
        have hx := Hsuf.out j (Nat.le_refl _) hlt
        obtain ⟨c0, c1, c2⟩ := Hrow.out.cell hlt
        have hnx : l.take (j + 1) = l.take j ++ [f j] := by rw [List.take_add_one, hx]; rfl
        generalize hk : f j = k at *
        have HcF := Lib.hid (fun W hf => HC.out k W hf)
        have Hnx := Lib.hid hnx
        have hfa : Fr [] w0 (wr.alloc (.cells #[.int .i64 k.at_, .string k.data, .int .i64 k.stamp] 117)) := Hfr.out.alloc _
        have hcall := Lib.hid (HcF.out _ hfa)
        have hra := Lib.hid (Hrow.out.fr ((Fr.refl [] wr).alloc (.cells #[.int .i64 k.at_, .string k.data, .int .i64 k.stamp] 117)) (by simp))
        have hba := Lib.hid (Blk.new wr 117 #[.int .i64 k.at_, .string k.data, .int .i64 k.stamp])
        have Hfa := Lib.hid hfa
        clear hfa hnx hx
        cases hp : pr k with
        | true =>
          rw [hp] at hcall
          go_wp2_with (first | (refine hcall.out.mono ?_; rintro e w2 ⟨rfl, hf2⟩))
          go_roundg (n - (j + 1))
          case measure => have := Hj.out; omega
          case rel =>
            have e3 : ((l.take (j + 1)).filter fun k => !pr k) = (l.take j).filter fun k => !pr k := by
              rw [Hnx.out, List.filter_append]
              simp [hp]
            exact ⟨i, j + 1, f, by have := Hj.out; omega, by have := Hj.out; omega, rfl, by go_num, hra.out.fr hf2 (by simp), Hfa.out.trans hf2, by rw [e3]; exact Hlen.out, by rw [e3]; exact Hpre.out, fun b h1 h2 => Hsuf.out b (by omega) h2⟩
        | false =>
          rw [hp] at hcall
          have hin : i < n := by have := Hj.out; omega
          have hi0 : (0 : Int) ≤ (i : Int) := by omega
          have hin' : (i : Int) < (n : Int) := by omega
          have hwi : IntKind.i64.wrap ((i : Int) + 1) = (i : Int) + 1 := IntWalk.i64_in _ (by have := Ha.out; omega)
          go_wp2_with (first | (refine hcall.out.mono ?_; rintro e w2 ⟨rfl, hf2⟩; have hr2 := hra.out.fr hf2 (by simp); obtain ⟨d0, d1, d2⟩ := hr2.cell hin; have fz := hr2.frozen; have b0 := hf2.cell_some (hba.out.cell 0) (by simp); have b1 := hf2.cell_some (hba.out.cell 1) (by simp); have b2 := hf2.cell_some (hba.out.cell 2) (by simp); simp at b0 b1 b2; have Hr2 := Lib.hid hr2; have Hf2 := Lib.hid hf2; clear hr2 hf2))
          go_roundg (n - (j + 1))
          case measure => have := Hj.out; omega
          case rel =>
            have e3 : ((l.take (j + 1)).filter fun k => !pr k) = ((l.take j).filter fun k => !pr k) ++ [k] := by
              rw [Hnx.out, List.filter_append]
              simp [hp]
            refine ⟨i + 1, j + 1, (fun b => if b = i then k else f b), by have := Hj.out; omega, by have := Hj.out; omega, by go_num, by go_num, Hr2.out.set_ k (by have := Hb.out; omega), (((Hfa.out.trans Hf2.out).setCell (.inr Hb.out.1) _).setCell (.inr Hb.out.1) _).setCell (.inr Hb.out.1) _, by rw [e3, List.length_append, Hlen.out]; rfl, fun b hb => ?_, fun b h1 h2 => ?_⟩
            · rw [e3]
              by_cases hbi : b = i
              · subst hbi
                rw [List.getElem?_append_right (by rw [Hlen.out]; exact Nat.le_refl _), Hlen.out, Nat.sub_self]
                simp
              · rw [List.getElem?_append_left (by rw [Hlen.out]; omega)]
                simp only [if_neg hbi]
                exact Hpre.out b (by omega)
            · have := Hj.out
              simp only [if_neg (show ¬ b = i by omega)]
              exact Hsuf.out b (by omega) h2
      · have hlt' : ¬ (j : Int) < (n : Int) := by omega
        have hjn : j = n := by have := Hj.out; omega
        have hin : i < n := by have := Hj.out; omega
        have htk : l.take j = l := List.take_of_length_le (by have := Hn.out; omega)
        rw [htk] at Hlen Hpre
        have hcap := Hb.out.2.1
        have m1 := fun wx => kslice_l wx g 0 n cap i (i : Int) rfl hin hcap
        have m2 := fun wx => kslice_h wx g 0 n cap i (i : Int) rfl (by omega) (by omega)
        rw [Nat.zero_add] at m1
        have hzl := zeros_len (n - i)
        obtain ⟨zs, hzs⟩ : ∃ zs, (Builtin.zeroCells (Value.agg #[.int .i64 0, .string ⟨#[]⟩, .int .i64 0]).cells (n - i)).toList = zs := ⟨_, rfl⟩
        have hcl := fun ty => run_clear_k wr ty _ zero117 g (i * 3) (n - i) (cap - i) (by omega) (zeros_one _) (fun b hb => by rw [hzl] at hb; exact Hrow.out.some_ (by omega)) (fun b hb => Hrow.out.frozen _)
        rw [hzs] at hcl hzl
        have Hfin := Lib.hid (Hrow.out.clear zs (by omega : i ≤ n))
        have HfrE := Lib.hid (Fr.setCells (.inr Hb.out.1) zs (i * 3) _ Hfr.out)
        clear hzs
        generalize wr.setCells g (i * 3) zs = WE at *
        go_wp2_with fail
        go_ret
        refine ⟨some ⟨g, 0, none⟩, i, cap, rfl, Hlen.out.symm, ?_, HfrE.out⟩
        exact Hfin.out.own Hb.out.1 Hlen.out Hpre.out (by omega) Hb.out.2.2
end Go.Proofs.Ythmnloapjdalpaa

/- An extent in plain words and in memory; New, Count, Misses, asked. -/
import Derived.Test.YthmnloapjdalpaaB4
import Derived.Test.YthmnloapjdalpaaL5
namespace Go.Proofs.Ythmnloapjdalpaa
open Go.RowKit
set_option linter.unusedVariables false
set_option linter.unusedSimpArgs false
/-- A block in the cache. -/
structure Kp where
  at_ : Int
  data : ByteArray
  stamp : Int
abbrev kc0 (k : Kp) : Value := .int .i64 k.at_
abbrev kc1 (k : Kp) : Value := .string k.data
abbrev kc2 (k : Kp) : Value := .int .i64 k.stamp
def kc (k : Kp) : List Value := [.int .i64 k.at_, .string k.data, .int .i64 k.stamp]
def kcs (l : List Kp) : List Value := l.flatMap kc
theorem kcs_len (l : List Kp) : (kcs l).length = l.length * 3 := by
  unfold kcs
  induction l with
  | nil => rfl
  | cons a l ih => rw [List.flatMap_cons, List.length_append, ih, List.length_cons]; simp [kc]; omega
theorem kcs_get : ∀ (l : List Kp) (j : Nat) (k : Kp), l[j]? = some k → (kcs l)[j * 3]? = some (kc0 k) ∧ (kcs l)[j * 3 + 1]? = some (kc1 k) ∧ (kcs l)[j * 3 + 2]? = some (kc2 k)
  | [], j, k, h => by simp at h
  | a :: l, 0, k, h => by
    injection h with h
    subst h
    exact ⟨rfl, rfl, rfl⟩
  | a :: l, j + 1, k, h => by
    obtain ⟨h1, h2, h3⟩ := kcs_get l j k h
    have e : kcs (a :: l) = kc a ++ kcs l := rfl
    have el : (kc a).length = 3 := rfl
    rw [e]
    refine ⟨?_, ?_, ?_⟩
    · rw [List.getElem?_append_right (by rw [el]; omega), el, show (j + 1) * 3 - 3 = j * 3 by omega]; exact h1
    · rw [List.getElem?_append_right (by rw [el]; omega), el, show (j + 1) * 3 + 1 - 3 = j * 3 + 1 by omega]; exact h2
    · rw [List.getElem?_append_right (by rw [el]; omega), el, show (j + 1) * 3 + 2 - 3 = j * 3 + 2 by omega]; exact h3
theorem kcs_one (l : List Kp) : ∀ u ∈ kcs l, u.oneCell' = true := by
  intro u hu
  unfold kcs at hu
  obtain ⟨k, -, hk⟩ := List.mem_flatMap.1 hu
  simp [kc] at hk
  rcases hk with rfl | rfl | rfl <;> rfl
theorem kcs_app (l m : List Kp) : kcs (l ++ m) = kcs l ++ kcs m := by simp [kcs]
/-- Blocks of S hold no blocks of the cache. -/
def NoK (w : World) (S : List Nat) : Prop := ∀ k, k ∈ S → ∀ cs mk, w.heap[k]? ≠ some (.cells cs 117 mk)
theorem NoK.nil (w : World) : NoK w [] := fun k hk => by cases hk
/-- A slice of blocks in the cache. -/
def KS (w : World) (v : Value) (l : List Kp) : Prop :=
  ∃ A cap, v = .slice A l.length cap ∧ l.length ≤ cap ∧ cap ≤ maxLen ∧ (A = none → l = []) ∧
    (l = [] ∨ ∃ q o cs mk, A = some ⟨q, o, none⟩ ∧ w.heap[q]? = some (.cells cs 117 mk) ∧ ∀ (j : Nat) (k : Kp), l[j]? = some k → cs[o + j * 3]? = some (kc0 k) ∧ cs[o + j * 3 + 1]? = some (kc1 k) ∧ cs[o + j * 3 + 2]? = some (kc2 k))
theorem KS.nil (w : World) : KS w (.slice none 0 0) [] := ⟨none, 0, rfl, Nat.le_refl _, Nat.zero_le _, fun _ => rfl, .inl rfl⟩
theorem KS.fr {w w' : World} {v : Value} {l : List Kp} {S : List Nat} (h : KS w v l) (hf : Fr S w w') (hz : NoK w S) : KS w' v l := by
  obtain ⟨A, cap, h1, h2, h3, h4, h5⟩ := h
  refine ⟨A, cap, h1, h2, h3, h4, ?_⟩
  rcases h5 with h5 | ⟨q, o, cs, mk, h5, h6, h7⟩
  · exact .inl h5
  · exact .inr ⟨q, o, cs, mk, h5, (hf.block q (Array.getElem?_eq_some_iff.1 h6).1 (fun hq => hz q hq cs mk h6)).trans h6, h7⟩
theorem KS.form {w : World} {v : Value} {l : List Kp} (h : KS w v l) : ∃ A cap, v = .slice A l.length cap ∧ l.length ≤ cap ∧ cap ≤ maxLen := by
  obtain ⟨A, cap, h1, h2, h3, -⟩ := h
  exact ⟨A, cap, h1, h2, h3⟩
theorem KS.cell {w : World} {A : Option Addr} {n cap : Nat} {l : List Kp} (h : KS w (.slice A n cap) l) {j : Nat} {k : Kp} (hj : l[j]? = some k) :
    ∃ q o, A = some ⟨q, o, none⟩ ∧ q < w.heap.size ∧ w.cell? ⟨q, o + j * 3, none⟩ = some (kc0 k) ∧ w.cell? ⟨q, o + j * 3 + 1, none⟩ = some (kc1 k) ∧ w.cell? ⟨q, o + j * 3 + 2, none⟩ = some (kc2 k) := by
  obtain ⟨A', cap', h1, h2, h3, h4, h5⟩ := h
  injection h1 with hA _ _
  rcases h5 with rfl | ⟨q, o, cs, mk, h5, h6, h7⟩
  · simp at hj
  · obtain ⟨c0, c1, c2⟩ := h7 j k hj
    exact ⟨q, o, hA.trans h5, (Array.getElem?_eq_some_iff.1 h6).1, by simp [World.cell?, h6, c0], by simp [World.cell?, h6, c1], by simp [World.cell?, h6, c2]⟩
/-- An extent: where it lies, how much is cached, what is, how many reads missed. -/
structure Bv where
  first : Nat
  count : Nat
  cached : Nat
  cache : List Kp
  misses : Nat
structure Bv.Ok (b : Bv) : Prop where
  f : b.first ≤ 4096
  c : b.count ≤ 4096
  k : b.cached ≤ 16
  l : b.cache.length ≤ 16
/-- An extent in block v, over the disk in block p. -/
structure DevAt (w : World) (v p : Nat) (b : Bv) : Prop where
  ok : b.Ok
  hd : ∃ cv, Blk w v 113 #[ptr p, .int .i64 b.first, .int .i64 b.count, .int .i64 b.cached, cv, .int .i64 b.misses] ∧ KS w cv b.cache
theorem DevAt.fr {w w' : World} {v p : Nat} {b : Bv} {S : List Nat} (h : DevAt w v p b) (hf : Fr S w w') (hz : NoK w S) (h1 : v ∉ S) : DevAt w' v p b := by
  obtain ⟨ok, cv, hb, hk⟩ := h
  exact ⟨ok, cv, hb.fr hf h1, hk.fr hf hz⟩
theorem DevAt.to {w w' : World} {v p : Nat} {b : Bv} (h : DevAt w v p b) (hf : Fr [] w w') : DevAt w' v p b := h.fr hf (NoK.nil w) (by simp)
structure DCells (w : World) (v p first count cached misses : Nat) (cv : Value) : Prop where
  c0 : w.cell? ⟨v, 0, none⟩ = some (ptr p)
  c1 : w.cell? ⟨v, 1, none⟩ = some (.int .i64 first)
  c2 : w.cell? ⟨v, 2, none⟩ = some (.int .i64 count)
  c3 : w.cell? ⟨v, 3, none⟩ = some (.int .i64 cached)
  c4 : w.cell? ⟨v, 4, none⟩ = some cv
  c5 : w.cell? ⟨v, 5, none⟩ = some (.int .i64 misses)
  fz : ∀ j, w.frozen? ⟨v, j, none⟩ = false
theorem DevAt.cells {w : World} {v p : Nat} {b : Bv} (h : DevAt w v p b) : ∃ cv, DCells w v p b.first b.count b.cached b.misses cv ∧ KS w cv b.cache := by
  obtain ⟨ok, cv, hb, hk⟩ := h
  exact ⟨cv, ⟨by rw [hb.cell]; rfl, by rw [hb.cell]; rfl, by rw [hb.cell]; rfl, by rw [hb.cell]; rfl, by rw [hb.cell]; rfl, by rw [hb.cell]; rfl, hb.frozen⟩, hk⟩
theorem DevAt.lt {w : World} {v p : Nat} {b : Bv} (h : DevAt w v p b) : v < w.heap.size := by
  obtain ⟨ok, cv, hb, hk⟩ := h
  exact hb.lt
/-- Blocks of another type. -/
theorem Blk.ne_type {w : World} {k k' : Nat} {t t' : TypeId} {cs cs' : Array Value} (h : Blk w k t cs) (h' : Blk w k' t' cs') (ht : t ≠ t') : k ≠ k' := by
  rintro rfl
  unfold Blk at h h'
  rw [h] at h'
  injection h' with h'
  injection h' with _ e _
  exact ht e
theorem Blk.noK {w : World} {k : Nat} {t : TypeId} {cs : Array Value} (h : Blk w k t cs) (ht : t ≠ 117) : NoK w [k] := by
  intro j hj cs' mk e
  simp at hj
  subst hj
  unfold Blk at h
  rw [h] at e
  injection e with e
  injection e with _ e _
  exact ht e
theorem Blk.noZ {w : World} {k : Nat} {t : TypeId} {cs : Array Value} (h : Blk w k t cs) (ht : t ≠ 3) : NoZ w [k] := by
  intro j hj cs' mk e
  simp at hj
  subst hj
  unfold Blk at h
  rw [h] at e
  injection e with e
  injection e with _ e _
  exact ht e
theorem DiskAt.nok {w : World} {p g m : Nat} {d : Dk} (h : DiskAt w p g m d) : NoK w [p, g, m] := by
  obtain ⟨ok, ⟨cap, cv, hb, hc, hm, hz'⟩, ⟨cs, mk, hs, -⟩, um⟩ := h
  intro k hk cs' mk' he
  simp only [List.mem_cons, List.not_mem_nil, or_false] at hk
  rcases hk with rfl | rfl | rfl
  · unfold Blk at hb
    rw [hb] at he
    injection he with he
    injection he with _ he _
    cases he
  · rw [hs] at he
    injection he with he
    injection he with _ he _
    cases he
  · exact um.not_cells he
theorem DiskAt.far {w : World} {p g m v : Nat} {d : Dk} (h : DiskAt w p g m d) {cs : Array Value} (hb : Blk w v 113 cs) : v ∉ [p, g, m] := by
  obtain ⟨ok, ⟨cap, cv, hb', hc, hm, hz'⟩, sb, um⟩ := h
  simp only [List.mem_cons, List.not_mem_nil, or_false]
  rintro (rfl | rfl | rfl)
  · exact hb.ne_type hb' (by decide) rfl
  · exact sb.not hb (by decide)
  · exact um.not_cells hb
/-- An extent and its disk, both made since w0. -/
structure Dv (w0 w : World) (v p : Nat) (b : Bv) (d : Dk) : Prop where
  dd : Dd w0 w p d
  dev : DevAt w v p b
  v0 : w0.heap.size ≤ v
  in_ : b.first + b.count ≤ d.n
theorem Dv.to {w0 w w' : World} {v p : Nat} {b : Bv} {d : Dk} (h : Dv w0 w v p b d) (hf : Fr [] w w') : Dv w0 w' v p b d := ⟨h.dd.to hf, h.dev.to hf, h.v0, h.in_⟩
theorem Dv.fr {w0 w : World} {v p : Nat} {b : Bv} {d : Dk} (h : Dv w0 w v p b d) : Fr [] w0 w := h.dd.fr
/-- The disk turns; the extent stays. -/
theorem Dv.disk {w0 w w' : World} {v p g m : Nat} {b : Bv} {d d' : Dk} (hf : Fr [] w0 w) (ha : DiskAt w p g m d) (h1 : w0.heap.size ≤ p) (h2 : w0.heap.size ≤ g) (h3 : w0.heap.size ≤ m) (hv : DevAt w v p b) (hv0 : w0.heap.size ≤ v) (hin : b.first + b.count ≤ d'.n) (hT : Turned p g m w d' w') : Dv w0 w' v p b d' := by
  refine ⟨Dd.turned hf h1 h2 h3 hT, ?_, hv0, hin⟩
  obtain ⟨g', m', h1', hf', -⟩ := hT
  obtain ⟨ok, cv, hb, hk⟩ := hv
  exact ⟨ok, cv, hb.fr hf' (ha.far hb), hk.fr hf' ha.nok⟩
/-- The extent turns; the disk stays. -/
theorem Dv.turn {w0 w w' : World} {v p : Nat} {b b' : Bv} {d : Dk} (h : Dv w0 w v p b d) (hf : Fr [v] w w') (hv : DevAt w' v p b') (hin : b'.first = b.first ∧ b'.count = b.count) : Dv w0 w' v p b' d := by
  obtain ⟨⟨f, g, m, ha, h1, h2, h3⟩, hd, hv0, hi⟩ := h
  obtain ⟨ok, cv, hb, hk⟩ := hd
  have hfar := ha.far hb
  simp at hfar
  refine ⟨⟨f.step hf (fun k hk => .inr (by simp at hk; omega)), g, m, ha.fr hf (hb.noZ (by decide)) (by simp; omega) (by simp; omega) (by simp; omega), h1, h2, h3⟩, hv, hv0, by rw [hin.1, hin.2]; exact hi⟩
theorem Count15_any (v p : Nat) (b : Bv) (w : World) (h : DevAt w v p b) : Calls Try.prog 42 #[ptr v] w fun e w' => e = .returned (.int .i64 b.count) ∧ w = w' := by
  obtain ⟨cv, ⟨c0, c1, c2, c3, c4, c5, fz⟩, hk⟩ := h.cells
  clear h hk c0 c1 c3 c4 c5 fz
  go_enter Try.func42, Try.ntmps42
  go_wp2
  go_ret
  exact ⟨rfl, rfl⟩
theorem Misses_any (v p : Nat) (b : Bv) (w : World) (h : DevAt w v p b) : Calls Try.prog 27 #[ptr v] w fun e w' => e = .returned (.int .i64 b.misses) ∧ w = w' := by
  obtain ⟨cv, ⟨c0, c1, c2, c3, c4, c5, fz⟩, hk⟩ := h.cells
  clear h hk c0 c1 c3 c4 c2 fz
  go_enter Try.func27, Try.ntmps27
  go_wp2
  go_ret
  exact ⟨rfl, rfl⟩
def askedE (b : Bv) (d : Dk) (i : Int) : Int := if d.dead then 2 else if i < 0 ∨ (b.count : Int) ≤ i then 151 else 0
theorem asked_any {w0 w : World} {v p : Nat} {b : Bv} {d : Dk} (h : Dv w0 w v p b d) (i : Int) : Calls Try.prog 61 #[ptr v, .int .i64 i] w fun e w' => e = .returned (.int .i64 (askedE b d i)) ∧ w = w' := by
  obtain ⟨cv, ⟨c0, c1, c2, c3, c4, c5, fz⟩, hk⟩ := h.dev.cells
  have hD := Lib.hid h.dd.isDead
  have E := Lib.hid (show (if d.dead = true then (2 : Int) else if i < 0 ∨ (b.count : Int) ≤ i then 151 else 0) = askedE b d i from rfl)
  clear h hk c1 c3 c4 c5 fz
  generalize askedE b d i = V at *
  generalize b.count = N at *
  cases hd : d.dead with
  | true =>
    rw [hd] at hD
    rw [hd, if_pos rfl] at E
    go_enter Try.func61, Try.ntmps61
    go_wp2_with (go_at_call 66; refine hD.out.mono ?_; rintro e w1 ⟨rfl, rfl⟩)
    go_ret
    exact ⟨ret_int E.out, rfl⟩
  | false =>
    rw [hd] at hD
    rw [hd, if_neg (by simp)] at E
    by_cases h1 : i < 0
    · rw [if_pos (.inl h1)] at E
      go_enter Try.func61, Try.ntmps61
      go_wp2_with (go_at_call 66; refine hD.out.mono ?_; rintro e w1 ⟨rfl, rfl⟩)
      go_ret
      exact ⟨ret_int E.out, rfl⟩
    · by_cases h2 : (N : Int) ≤ i
      · rw [if_pos (.inr h2)] at E
        go_enter Try.func61, Try.ntmps61
        go_wp2_with (go_at_call 66; refine hD.out.mono ?_; rintro e w1 ⟨rfl, rfl⟩)
        go_ret
        exact ⟨ret_int E.out, rfl⟩
      · rw [if_neg (by omega)] at E
        go_enter Try.func61, Try.ntmps61
        go_wp2_with (go_at_call 66; refine hD.out.mono ?_; rintro e w1 ⟨rfl, rfl⟩)
        go_ret
        exact ⟨ret_int E.out, rfl⟩
def newBE (d : Dk) (f c k : Int) : Int := if f < 0 ∨ c < 1 ∨ (d.n : Int) < f ∨ (d.n : Int) - f < c ∨ k < 0 ∨ 16 < k then 150 else 0
def newB (f c k : Int) : Bv := ⟨f.toNat, c.toNat, k.toNat, [], 0⟩
theorem newBE_ok {d : Dk} {f c k : Int} (h : newBE d f c k = 0) : ¬ f < 0 ∧ ¬ c < 1 ∧ ¬ (d.n : Int) < f ∧ ¬ (d.n : Int) - f < c ∧ ¬ k < 0 ∧ ¬ 16 < k := by
  unfold newBE at h
  split at h
  · cases h
  · omega
theorem NewB_ok {w0 w : World} {p : Nat} {d : Dk} (h : Dd w0 w p d) (f c k : Int) (hE : newBE d f c k = 0) : Calls Try.prog 23 #[ptr p, .int .i64 f, .int .i64 c, .int .i64 k] w fun e w' => ∃ v, e = .returned (.tuple #[ptr v, .int .i64 0]) ∧ Dv w0 w' v p (newB f c k) d := by
  obtain ⟨h1, h2, h3, h4, h5, h6⟩ := newBE_ok hE
  have hn := h.ok.n2
  have hC := Lib.hid h.count
  have hw : IntKind.i64.wrap ((d.n : Int) - f) = (d.n : Int) - f := IntWalk.i64_in _ (by omega)
  obtain ⟨N, hN⟩ : ∃ N, d.n = N := ⟨_, rfl⟩
  have hok : (newB f c k).Ok := ⟨by show f.toNat ≤ 4096; omega, by show c.toNat ≤ 4096; omega, by show k.toNat ≤ 16; omega, by show 0 ≤ 16; omega⟩
  have Hend := Lib.hid (show ∃ v, Ending.returned (.tuple #[ptr w.heap.size, .int .i64 0]) = .returned (.tuple #[ptr v, .int .i64 0]) ∧ Dv w0 (w.alloc (.cells #[ptr p, .int .i64 f, .int .i64 c, .int .i64 k, .slice none 0 0, .int .i64 0] 113)) v p (newB f c k) d from ⟨w.heap.size, rfl, h.to ((Fr.refl [] w).alloc _), ⟨hok, _, by
    have := Blk.new w 113 #[ptr p, .int .i64 f, .int .i64 c, .int .i64 k, .slice none 0 0, .int .i64 0]
    show Blk _ _ 113 #[ptr p, .int .i64 (f.toNat : Int), .int .i64 (c.toNat : Int), .int .i64 (k.toNat : Int), .slice none 0 0, .int .i64 0]
    rw [show ((f.toNat : Nat) : Int) = f by omega, show ((c.toNat : Nat) : Int) = c by omega, show ((k.toNat : Nat) : Int) = k by omega]
    exact this, KS.nil _⟩, h.fr.size, by show f.toNat + c.toNat ≤ d.n; omega⟩)
  rw [hN] at hw h3 h4 hC
  clear h hE hok hn
  go_enter Try.func23, Try.ntmps23
  go_wp2_with (go_at_call 29; refine hC.out.mono ?_; rintro e w1 ⟨rfl, rfl⟩)
  go_ret2
  exact Hend.out
end Go.Proofs.Ythmnloapjdalpaa

/- An extent in plain words and in memory; New, Count, Misses, asked. The cache's library functions: Clone, IndexFunc; the closures. The cache's DeleteFunc. -/
import Derived.Test.YthmnloapjdalpaaB4
import Derived.Test.YthmnloapjdalpaaL5
namespace Go.Proofs.Ythmnloapjdalpaa
open Go.RowKit
set_option linter.unusedVariables false
set_option linter.unusedSimpArgs false
/-- A block in the cache. -/
structure Kp where
  at_ : Int
  data : ByteArray
  stamp : Int
abbrev kc0 (k : Kp) : Value := .int .i64 k.at_
abbrev kc1 (k : Kp) : Value := .string k.data
abbrev kc2 (k : Kp) : Value := .int .i64 k.stamp
def kc (k : Kp) : List Value := [.int .i64 k.at_, .string k.data, .int .i64 k.stamp]
def kcs (l : List Kp) : List Value := l.flatMap kc
theorem kcs_len (l : List Kp) : (kcs l).length = l.length * 3 := by
  unfold kcs
  induction l with
  | nil => rfl
  | cons a l ih => rw [List.flatMap_cons, List.length_append, ih, List.length_cons]; simp [kc]; omega
theorem kcs_get : ∀ (l : List Kp) (j : Nat) (k : Kp), l[j]? = some k → (kcs l)[j * 3]? = some (kc0 k) ∧ (kcs l)[j * 3 + 1]? = some (kc1 k) ∧ (kcs l)[j * 3 + 2]? = some (kc2 k)
  | [], j, k, h => by simp at h
  | a :: l, 0, k, h => by
    injection h with h
    subst h
    exact ⟨rfl, rfl, rfl⟩
  | a :: l, j + 1, k, h => by
    obtain ⟨h1, h2, h3⟩ := kcs_get l j k h
    have e : kcs (a :: l) = kc a ++ kcs l := rfl
    have el : (kc a).length = 3 := rfl
    rw [e]
    refine ⟨?_, ?_, ?_⟩
    · rw [List.getElem?_append_right (by rw [el]; omega), el, show (j + 1) * 3 - 3 = j * 3 by omega]; exact h1
    · rw [List.getElem?_append_right (by rw [el]; omega), el, show (j + 1) * 3 + 1 - 3 = j * 3 + 1 by omega]; exact h2
    · rw [List.getElem?_append_right (by rw [el]; omega), el, show (j + 1) * 3 + 2 - 3 = j * 3 + 2 by omega]; exact h3
theorem kcs_one (l : List Kp) : ∀ u ∈ kcs l, u.oneCell' = true := by
  intro u hu
  unfold kcs at hu
  obtain ⟨k, -, hk⟩ := List.mem_flatMap.1 hu
  simp [kc] at hk
  rcases hk with rfl | rfl | rfl <;> rfl
theorem kcs_app (l m : List Kp) : kcs (l ++ m) = kcs l ++ kcs m := by simp [kcs]
/-- Blocks of S hold no blocks of the cache. -/
def NoK (w : World) (S : List Nat) : Prop := ∀ k, k ∈ S → ∀ cs mk, w.heap[k]? ≠ some (.cells cs 117 mk)
theorem NoK.nil (w : World) : NoK w [] := fun k hk => by cases hk
/-- A slice of blocks in the cache. -/
def KS (w : World) (v : Value) (l : List Kp) : Prop :=
  ∃ A cap, v = .slice A l.length cap ∧ l.length ≤ cap ∧ cap ≤ maxLen ∧ (A = none → l = []) ∧
    (l = [] ∨ ∃ q o cs mk, A = some ⟨q, o, none⟩ ∧ w.heap[q]? = some (.cells cs 117 mk) ∧ ∀ (j : Nat) (k : Kp), l[j]? = some k → cs[o + j * 3]? = some (kc0 k) ∧ cs[o + j * 3 + 1]? = some (kc1 k) ∧ cs[o + j * 3 + 2]? = some (kc2 k))
theorem KS.nil (w : World) : KS w (.slice none 0 0) [] := ⟨none, 0, rfl, Nat.le_refl _, Nat.zero_le _, fun _ => rfl, .inl rfl⟩
theorem KS.fr {w w' : World} {v : Value} {l : List Kp} {S : List Nat} (h : KS w v l) (hf : Fr S w w') (hz : NoK w S) : KS w' v l := by
  obtain ⟨A, cap, h1, h2, h3, h4, h5⟩ := h
  refine ⟨A, cap, h1, h2, h3, h4, ?_⟩
  rcases h5 with h5 | ⟨q, o, cs, mk, h5, h6, h7⟩
  · exact .inl h5
  · exact .inr ⟨q, o, cs, mk, h5, (hf.block q (Array.getElem?_eq_some_iff.1 h6).1 (fun hq => hz q hq cs mk h6)).trans h6, h7⟩
theorem KS.form {w : World} {v : Value} {l : List Kp} (h : KS w v l) : ∃ A cap, v = .slice A l.length cap ∧ l.length ≤ cap ∧ cap ≤ maxLen := by
  obtain ⟨A, cap, h1, h2, h3, -⟩ := h
  exact ⟨A, cap, h1, h2, h3⟩
theorem KS.cell {w : World} {A : Option Addr} {n cap : Nat} {l : List Kp} (h : KS w (.slice A n cap) l) {j : Nat} {k : Kp} (hj : l[j]? = some k) :
    ∃ q o, A = some ⟨q, o, none⟩ ∧ q < w.heap.size ∧ w.cell? ⟨q, o + j * 3, none⟩ = some (kc0 k) ∧ w.cell? ⟨q, o + j * 3 + 1, none⟩ = some (kc1 k) ∧ w.cell? ⟨q, o + j * 3 + 2, none⟩ = some (kc2 k) := by
  obtain ⟨A', cap', h1, h2, h3, h4, h5⟩ := h
  injection h1 with hA _ _
  rcases h5 with rfl | ⟨q, o, cs, mk, h5, h6, h7⟩
  · simp at hj
  · obtain ⟨c0, c1, c2⟩ := h7 j k hj
    exact ⟨q, o, hA.trans h5, (Array.getElem?_eq_some_iff.1 h6).1, by simp [World.cell?, h6, c0], by simp [World.cell?, h6, c1], by simp [World.cell?, h6, c2]⟩
/-- An extent: where it lies, how much is cached, what is, how many reads missed. -/
structure Bv where
  first : Nat
  count : Nat
  cached : Nat
  cache : List Kp
  misses : Nat
structure Bv.Ok (b : Bv) : Prop where
  f : b.first ≤ 4096
  c : b.count ≤ 4096
  k : b.cached ≤ 16
  l : b.cache.length ≤ 16
/-- An extent in block v, over the disk in block p. -/
structure DevAt (w : World) (v p : Nat) (b : Bv) : Prop where
  ok : b.Ok
  hd : ∃ cv, Blk w v 113 #[ptr p, .int .i64 b.first, .int .i64 b.count, .int .i64 b.cached, cv, .int .i64 b.misses] ∧ KS w cv b.cache
theorem DevAt.fr {w w' : World} {v p : Nat} {b : Bv} {S : List Nat} (h : DevAt w v p b) (hf : Fr S w w') (hz : NoK w S) (h1 : v ∉ S) : DevAt w' v p b := by
  obtain ⟨ok, cv, hb, hk⟩ := h
  exact ⟨ok, cv, hb.fr hf h1, hk.fr hf hz⟩
theorem DevAt.to {w w' : World} {v p : Nat} {b : Bv} (h : DevAt w v p b) (hf : Fr [] w w') : DevAt w' v p b := h.fr hf (NoK.nil w) (by simp)
structure DCells (w : World) (v p first count cached misses : Nat) (cv : Value) : Prop where
  c0 : w.cell? ⟨v, 0, none⟩ = some (ptr p)
  c1 : w.cell? ⟨v, 1, none⟩ = some (.int .i64 first)
  c2 : w.cell? ⟨v, 2, none⟩ = some (.int .i64 count)
  c3 : w.cell? ⟨v, 3, none⟩ = some (.int .i64 cached)
  c4 : w.cell? ⟨v, 4, none⟩ = some cv
  c5 : w.cell? ⟨v, 5, none⟩ = some (.int .i64 misses)
  fz : ∀ j, w.frozen? ⟨v, j, none⟩ = false
theorem DevAt.cells {w : World} {v p : Nat} {b : Bv} (h : DevAt w v p b) : ∃ cv, DCells w v p b.first b.count b.cached b.misses cv ∧ KS w cv b.cache := by
  obtain ⟨ok, cv, hb, hk⟩ := h
  exact ⟨cv, ⟨by rw [hb.cell]; rfl, by rw [hb.cell]; rfl, by rw [hb.cell]; rfl, by rw [hb.cell]; rfl, by rw [hb.cell]; rfl, by rw [hb.cell]; rfl, hb.frozen⟩, hk⟩
theorem DevAt.lt {w : World} {v p : Nat} {b : Bv} (h : DevAt w v p b) : v < w.heap.size := by
  obtain ⟨ok, cv, hb, hk⟩ := h
  exact hb.lt
/-- Blocks of another type. -/
theorem Blk.ne_type {w : World} {k k' : Nat} {t t' : TypeId} {cs cs' : Array Value} (h : Blk w k t cs) (h' : Blk w k' t' cs') (ht : t ≠ t') : k ≠ k' := by
  rintro rfl
  unfold Blk at h h'
  rw [h] at h'
  injection h' with h'
  injection h' with _ e _
  exact ht e
theorem Blk.noK {w : World} {k : Nat} {t : TypeId} {cs : Array Value} (h : Blk w k t cs) (ht : t ≠ 117) : NoK w [k] := by
  intro j hj cs' mk e
  simp at hj
  subst hj
  unfold Blk at h
  rw [h] at e
  injection e with e
  injection e with _ e _
  exact ht e
theorem Blk.noZ {w : World} {k : Nat} {t : TypeId} {cs : Array Value} (h : Blk w k t cs) (ht : t ≠ 3) : NoZ w [k] := by
  intro j hj cs' mk e
  simp at hj
  subst hj
  unfold Blk at h
  rw [h] at e
  injection e with e
  injection e with _ e _
  exact ht e
theorem DiskAt.nok {w : World} {p g m : Nat} {d : Dk} (h : DiskAt w p g m d) : NoK w [p, g, m] := by
  obtain ⟨ok, ⟨cap, cv, hb, hc, hm, hz'⟩, ⟨cs, mk, hs, -⟩, um⟩ := h
  intro k hk cs' mk' he
  simp only [List.mem_cons, List.not_mem_nil, or_false] at hk
  rcases hk with rfl | rfl | rfl
  · unfold Blk at hb
    rw [hb] at he
    injection he with he
    injection he with _ he _
    cases he
  · rw [hs] at he
    injection he with he
    injection he with _ he _
    cases he
  · exact um.not_cells he
theorem DiskAt.far {w : World} {p g m v : Nat} {d : Dk} (h : DiskAt w p g m d) {cs : Array Value} (hb : Blk w v 113 cs) : v ∉ [p, g, m] := by
  obtain ⟨ok, ⟨cap, cv, hb', hc, hm, hz'⟩, sb, um⟩ := h
  simp only [List.mem_cons, List.not_mem_nil, or_false]
  rintro (rfl | rfl | rfl)
  · exact hb.ne_type hb' (by decide) rfl
  · exact sb.not hb (by decide)
  · exact um.not_cells hb
/-- An extent and its disk, both made since w0. -/
structure Dv (w0 w : World) (v p : Nat) (b : Bv) (d : Dk) : Prop where
  dd : Dd w0 w p d
  dev : DevAt w v p b
  v0 : w0.heap.size ≤ v
  in_ : b.first + b.count ≤ d.n
theorem Dv.to {w0 w w' : World} {v p : Nat} {b : Bv} {d : Dk} (h : Dv w0 w v p b d) (hf : Fr [] w w') : Dv w0 w' v p b d := ⟨h.dd.to hf, h.dev.to hf, h.v0, h.in_⟩
theorem Dv.fr {w0 w : World} {v p : Nat} {b : Bv} {d : Dk} (h : Dv w0 w v p b d) : Fr [] w0 w := h.dd.fr
/-- The disk turns; the extent stays. -/
theorem Dv.disk {w0 w w' : World} {v p g m : Nat} {b : Bv} {d d' : Dk} (hf : Fr [] w0 w) (ha : DiskAt w p g m d) (h1 : w0.heap.size ≤ p) (h2 : w0.heap.size ≤ g) (h3 : w0.heap.size ≤ m) (hv : DevAt w v p b) (hv0 : w0.heap.size ≤ v) (hin : b.first + b.count ≤ d'.n) (hT : Turned p g m w d' w') : Dv w0 w' v p b d' := by
  refine ⟨Dd.turned hf h1 h2 h3 hT, ?_, hv0, hin⟩
  obtain ⟨g', m', h1', hf', -⟩ := hT
  obtain ⟨ok, cv, hb, hk⟩ := hv
  exact ⟨ok, cv, hb.fr hf' (ha.far hb), hk.fr hf' ha.nok⟩
/-- The extent turns; the disk stays. -/
theorem Dv.turn {w0 w w' : World} {v p : Nat} {b b' : Bv} {d : Dk} (h : Dv w0 w v p b d) (hf : Fr [v] w w') (hv : DevAt w' v p b') (hin : b'.first = b.first ∧ b'.count = b.count) : Dv w0 w' v p b' d := by
  obtain ⟨⟨f, g, m, ha, h1, h2, h3⟩, hd, hv0, hi⟩ := h
  obtain ⟨ok, cv, hb, hk⟩ := hd
  have hfar := ha.far hb
  simp at hfar
  refine ⟨⟨f.step hf (fun k hk => .inr (by simp at hk; omega)), g, m, ha.fr hf (hb.noZ (by decide)) (by simp; omega) (by simp; omega) (by simp; omega), h1, h2, h3⟩, hv, hv0, by rw [hin.1, hin.2]; exact hi⟩
theorem Count15_any (v p : Nat) (b : Bv) (w : World) (h : DevAt w v p b) : Calls Try.prog 42 #[ptr v] w fun e w' => e = .returned (.int .i64 b.count) ∧ w = w' := by
  obtain ⟨cv, ⟨c0, c1, c2, c3, c4, c5, fz⟩, hk⟩ := h.cells
  clear h hk c0 c1 c3 c4 c5 fz
  go_enter Try.func42, Try.ntmps42
  go_wp2
  go_ret
  exact ⟨rfl, rfl⟩
theorem Misses_any (v p : Nat) (b : Bv) (w : World) (h : DevAt w v p b) : Calls Try.prog 27 #[ptr v] w fun e w' => e = .returned (.int .i64 b.misses) ∧ w = w' := by
  obtain ⟨cv, ⟨c0, c1, c2, c3, c4, c5, fz⟩, hk⟩ := h.cells
  clear h hk c0 c1 c3 c4 c2 fz
  go_enter Try.func27, Try.ntmps27
  go_wp2
  go_ret
  exact ⟨rfl, rfl⟩
def askedE (b : Bv) (d : Dk) (i : Int) : Int := if d.dead then 2 else if i < 0 ∨ (b.count : Int) ≤ i then 151 else 0
theorem asked_any {w0 w : World} {v p : Nat} {b : Bv} {d : Dk} (h : Dv w0 w v p b d) (i : Int) : Calls Try.prog 61 #[ptr v, .int .i64 i] w fun e w' => e = .returned (.int .i64 (askedE b d i)) ∧ w = w' := by
  obtain ⟨cv, ⟨c0, c1, c2, c3, c4, c5, fz⟩, hk⟩ := h.dev.cells
  have hD := Lib.hid h.dd.isDead
  have E := Lib.hid (show (if d.dead = true then (2 : Int) else if i < 0 ∨ (b.count : Int) ≤ i then 151 else 0) = askedE b d i from rfl)
  clear h hk c1 c3 c4 c5 fz
  generalize askedE b d i = V at *
  generalize b.count = N at *
  cases hd : d.dead with
  | true =>
    rw [hd] at hD
    rw [hd, if_pos rfl] at E
    go_enter Try.func61, Try.ntmps61
    go_wp2_with (go_at_call 66; refine hD.out.mono ?_; rintro e w1 ⟨rfl, rfl⟩)
    go_ret
    exact ⟨ret_int E.out, rfl⟩
  | false =>
    rw [hd] at hD
    rw [hd, if_neg (by simp)] at E
    by_cases h1 : i < 0
    · rw [if_pos (.inl h1)] at E
      go_enter Try.func61, Try.ntmps61
      go_wp2_with (go_at_call 66; refine hD.out.mono ?_; rintro e w1 ⟨rfl, rfl⟩)
      go_ret
      exact ⟨ret_int E.out, rfl⟩
    · by_cases h2 : (N : Int) ≤ i
      · rw [if_pos (.inr h2)] at E
        go_enter Try.func61, Try.ntmps61
        go_wp2_with (go_at_call 66; refine hD.out.mono ?_; rintro e w1 ⟨rfl, rfl⟩)
        go_ret
        exact ⟨ret_int E.out, rfl⟩
      · rw [if_neg (by omega)] at E
        go_enter Try.func61, Try.ntmps61
        go_wp2_with (go_at_call 66; refine hD.out.mono ?_; rintro e w1 ⟨rfl, rfl⟩)
        go_ret
        exact ⟨ret_int E.out, rfl⟩
def newBE (d : Dk) (f c k : Int) : Int := if f < 0 ∨ c < 1 ∨ (d.n : Int) < f ∨ (d.n : Int) - f < c ∨ k < 0 ∨ 16 < k then 150 else 0
def newB (f c k : Int) : Bv := ⟨f.toNat, c.toNat, k.toNat, [], 0⟩
theorem newBE_ok {d : Dk} {f c k : Int} (h : newBE d f c k = 0) : ¬ f < 0 ∧ ¬ c < 1 ∧ ¬ (d.n : Int) < f ∧ ¬ (d.n : Int) - f < c ∧ ¬ k < 0 ∧ ¬ 16 < k := by
  unfold newBE at h
  split at h
  · cases h
  · omega
theorem NewB_ok {w0 w : World} {p : Nat} {d : Dk} (h : Dd w0 w p d) (f c k : Int) (hE : newBE d f c k = 0) : Calls Try.prog 23 #[ptr p, .int .i64 f, .int .i64 c, .int .i64 k] w fun e w' => ∃ v, e = .returned (.tuple #[ptr v, .int .i64 0]) ∧ Dv w0 w' v p (newB f c k) d := by
  obtain ⟨h1, h2, h3, h4, h5, h6⟩ := newBE_ok hE
  have hn := h.ok.n2
  have hC := Lib.hid h.count
  have hw : IntKind.i64.wrap ((d.n : Int) - f) = (d.n : Int) - f := IntWalk.i64_in _ (by omega)
  obtain ⟨N, hN⟩ : ∃ N, d.n = N := ⟨_, rfl⟩
  have hok : (newB f c k).Ok := ⟨by show f.toNat ≤ 4096; omega, by show c.toNat ≤ 4096; omega, by show k.toNat ≤ 16; omega, by show 0 ≤ 16; omega⟩
  have Hend := Lib.hid (show ∃ v, Ending.returned (.tuple #[ptr w.heap.size, .int .i64 0]) = .returned (.tuple #[ptr v, .int .i64 0]) ∧ Dv w0 (w.alloc (.cells #[ptr p, .int .i64 f, .int .i64 c, .int .i64 k, .slice none 0 0, .int .i64 0] 113)) v p (newB f c k) d from ⟨w.heap.size, rfl, h.to ((Fr.refl [] w).alloc _), ⟨hok, _, by
    have := Blk.new w 113 #[ptr p, .int .i64 f, .int .i64 c, .int .i64 k, .slice none 0 0, .int .i64 0]
    show Blk _ _ 113 #[ptr p, .int .i64 (f.toNat : Int), .int .i64 (c.toNat : Int), .int .i64 (k.toNat : Int), .slice none 0 0, .int .i64 0]
    rw [show ((f.toNat : Nat) : Int) = f by omega, show ((c.toNat : Nat) : Int) = c by omega, show ((k.toNat : Nat) : Int) = k by omega]
    exact this, KS.nil _⟩, h.fr.size, by show f.toNat + c.toNat ≤ d.n; omega⟩)
  rw [hN] at hw h3 h4 hC
  clear h hE hok hn
  go_enter Try.func23, Try.ntmps23
  go_wp2_with (go_at_call 29; refine hC.out.mono ?_; rintro e w1 ⟨rfl, rfl⟩)
  go_ret2
  exact Hend.out
end Go.Proofs.Ythmnloapjdalpaa
namespace Go.Proofs.Ythmnloapjdalpaa
open Go.RowKit
set_option linter.unusedVariables false
set_option linter.unusedSimpArgs false
theorem Try.info117 : (Try.prog.info? 117).map (fun i => (i.zero, i.size, i.bytes)) = some (some (.agg #[.int .i64 0, .string ⟨#[]⟩, .int .i64 0]), 3, 32) := by kernel_rfl
/-- Blocks of the cache in memory of one's own. -/
def KOwn (B : Nat) (w : World) (v : Value) (l : List Kp) : Prop := w.ownsRow B 117 3 v l.length (kcs l)
theorem KOwn.shape {B : Nat} {w : World} {v : Value} {l : List Kp} (h : KOwn B w v l) : ∃ A cap, v = .slice A l.length cap := own_shape h
theorem KOwn.kept {B : Nat} {w w' : World} {v : Value} {l : List Kp} (h : KOwn B w v l) (hf : Fr [] w w') : KOwn B w' v l := by
  rcases h with ⟨h0, h1⟩
  refine ⟨h0, ?_⟩
  rcases h1 with h1 | ⟨g, cap, cur, e, h2, h3, h4⟩
  · exact .inl h1
  · refine .inr ⟨g, cap, cur, e, h2, ?_, h4⟩
    exact (hf.block g (Array.getElem?_eq_some_iff.1 h3).1 (by simp)).trans h3
theorem KOwn.ks {B : Nat} {w : World} {v : Value} {l : List Kp} (h : KOwn B w v l) : KS w v l := by
  by_cases hv : v = .slice none 0 0
  · have : l = [] := by
      rcases h.2 with ⟨h1, h2⟩ | ⟨g, cap, cur, h1, -⟩
      · exact List.eq_nil_of_length_eq_zero (by omega)
      · rw [hv] at h1
        cases h1
    subst this
    rw [hv]
    exact KS.nil w
  · obtain ⟨g, cap, cs, rfl, h1, h2, h3, h4, h5⟩ := own_some h hv
    refine ⟨_, cap, rfl, h2, h3, (fun h => by cases h), .inr ⟨g, 0, cs, _, rfl, h4, fun j k hj => ?_⟩⟩
    obtain ⟨c0, c1, c2⟩ := kcs_get l j k hj
    rw [Nat.zero_add]
    exact ⟨h5 _ _ c0, h5 _ _ c1, h5 _ _ c2⟩
theorem KS.news {w : World} {ad : Addr} {n cap : Nat} {l : List Kp} (h : KS w (.slice (some ad) n cap) l) : ∀ (j : Nat) (u : Value), (kcs l)[j]? = some u → w.cell? (ad.add j) = some u := by
  intro j u hu
  have hj : j < l.length * 3 := by
    have := (List.getElem?_eq_some_iff.1 hu).1
    rwa [kcs_len] at this
  have hx : l[j / 3]? = some (l[j / 3]'(by omega)) := List.getElem?_eq_getElem (by omega)
  obtain ⟨q, o, ha, hq, c0, c1, c2⟩ := h.cell hx
  obtain ⟨k0, k1, k2⟩ := kcs_get l _ _ hx
  injection ha with ha
  subst ha
  rw [addr_add]
  have h3 : j = j / 3 * 3 ∨ j = j / 3 * 3 + 1 ∨ j = j / 3 * 3 + 2 := by omega
  rcases h3 with e | e | e
  · rw [← e] at k0 c0
    rw [k0] at hu
    injection hu with hu
    rw [← hu]
    exact c0
  · rw [← e] at k1
    rw [k1] at hu
    injection hu with hu
    rw [← hu]
    rw [show o + j = o + j / 3 * 3 + 1 by omega]
    exact c1
  · rw [← e] at k2
    rw [k2] at hu
    injection hu with hu
    rw [← hu]
    rw [show o + j = o + j / 3 * 3 + 2 by omega]
    exact c2
def CloneK (w : World) (l : List Kp) (e : Ending) (w' : World) : Prop := ∃ A cap, e = .returned (.slice A l.length cap) ∧ KOwn w.heap.size w' (.slice A l.length cap) l ∧ Fr [] w w'
theorem cloneK_any (A : Option Addr) (n cap : Nat) (l : List Kp) (w : World) (h : KS w (.slice A n cap) l) (hl : l.length ≤ 100) : Calls Try.prog 76 #[.slice A n cap] w (CloneK w l) := by
  have hn : n = l.length := by
    obtain ⟨A', cap', h1, -⟩ := h
    injection h1
  cases A with
  | none =>
    have hl0 : l = [] := by
      obtain ⟨A', cap', e1, -, -, e4, -⟩ := h
      injection e1 with e1 _ _
      exact e4 e1.symm
    subst hl0
    have hn0 : n = 0 := hn
    subst hn0
    have hnil := fun w => Lib.run_eql_slice_nil (P := Try.prog) w 111 117 none 0 cap 0 0 Try.underlying111
    clear h hn
    go_enter Try.func76, Try.ntmps76
    go_wp2
    go_ret
    exact ⟨none, 0, rfl, World.ownsRow_nil w _ 117 3, Fr.refl _ _⟩
  | some ad =>
    obtain ⟨i0, hi0, hz0, hz1, hz2⟩ := info3 Try.info117
    have hnil := fun w => Lib.run_eql_slice_nil (P := Try.prog) w 111 117 (some ad) n cap 0 0 Try.underlying111
    have Hf0 := Lib.hid ((Fr.refl [] w).alloc (.cells #[] 117))
    have hm0 : (w.alloc (.cells #[] 117)).ownsRow w.heap.size 117 3 (.slice (some ⟨w.heap.size, 0, none⟩) 0 0) 0 [] := World.ownsRow_made w #[] 0 (Nat.le_refl _) (by simp [maxLen]) (by simp)
    have Hm0 := Lib.hid hm0
    have Hcell := Lib.hid ((h.fr Hf0.out (NoK.nil _)).news)
    have Hn := Lib.hid hn
    clear hm0 h hn
    go_enter Try.func76, Try.ntmps76
    go_wp2_with (at_builtin; go_must (refine wpList_append_own _ rfl (.tmp 5) (.tmp 6) 111 rfl w.heap.size 117 i0 (.agg #[.int .i64 0, .string ⟨#[]⟩, .int .i64 0]) 3 32 Try.underlying111 hi0 hz0 hz1 hz2 rfl (by decide) _ _ _ rfl Hm0.out _ n cap (kcs l) rfl (by rw [kcs_len, Hn.out]) Hcell.out (kcs_one _) (by simp only [maxLen]; have := Hn.out; omega) (by have := Hn.out; omega) (by simp) ?_; intro v1 w1 hown1 hg1 hnn; have hf1 := Hf0.out.own Hm0.out hg1))
    go_ret
    simp only [List.nil_append, Nat.zero_add] at hown1
    obtain ⟨A', cap', rfl⟩ := own_shape hown1
    rw [Hn.out] at hown1
    refine ⟨A', cap', ?_, hown1, hf1⟩
    rw [Hn.out]
    rfl
abbrev kv (k : Kp) : Value := .agg #[.int .i64 k.at_, .string k.data, .int .i64 k.stamp]
theorem touch1_any (k o : Kp) (b : Nat) (w : World) (hb : w.cell? ⟨b, 0, none⟩ = some (.int .i64 k.at_)) : Calls Try.prog 101 #[kv o, ptr b] w fun e w' => e = .returned (.bool (decide (o.at_ = k.at_))) ∧ Fr [] w w' := by
  have hb' := ((Fr.refl [] w).alloc (.cells #[.int .i64 o.at_, .string o.data, .int .i64 o.stamp] 117)).cell_some hb (by simp)
  have HF := Lib.hid ((Fr.refl [] w).alloc (.cells #[.int .i64 o.at_, .string o.data, .int .i64 o.stamp] 117))
  generalize k.at_ = ka at *
  go_enter Try.func101, Try.ntmps101
  go_wp2
  go_ret
  exact ⟨by first | rfl | simp, HF.out⟩
theorem read1k_any (i : Int) (o : Kp) (b : Nat) (w : World) (hb : w.cell? ⟨b, 0, none⟩ = some (.int .i64 i)) : Calls Try.prog 63 #[kv o, ptr b] w fun e w' => e = .returned (.bool (decide (o.at_ = i))) ∧ Fr [] w w' := by
  have hb' := ((Fr.refl [] w).alloc (.cells #[.int .i64 o.at_, .string o.data, .int .i64 o.stamp] 117)).cell_some hb (by simp)
  have HF := Lib.hid ((Fr.refl [] w).alloc (.cells #[.int .i64 o.at_, .string o.data, .int .i64 o.stamp] 117))
  go_enter Try.func63, Try.ntmps63
  go_wp2
  go_ret
  exact ⟨by first | rfl | simp, HF.out⟩
/-- Where the first one is that a test takes; -1: nowhere. -/
def IdxP (l : List Kp) (pr : Kp → Bool) (i : Int) : Prop := (i = -1 ∧ ∀ k, k ∈ l → pr k = false) ∨ ∃ j k, i = ((j : Nat) : Int) ∧ l[j]? = some k ∧ pr k = true ∧ ∀ j' k', j' < j → l[j']? = some k' → pr k' = false
set_option maxRecDepth 100000 in
theorem indexF_any (A : Option Addr) (n cap : Nat) (l : List Kp) (F : FuncId) (caps : Array Value) (pr : Kp → Bool) (w : World) (h : KS w (.slice A n cap) l) (hl : l.length ≤ 100)
    (eF : ∀ args W, (callFunc F args).run Try.prog W = .ok (.enter F args) W)
    (hC : ∀ (k : Kp) (W : World), Fr [] w W → Calls Try.prog F (#[kv k] ++ caps) W fun e w' => e = .returned (.bool (pr k)) ∧ Fr [] W w') :
    Calls Try.prog 62 #[.slice A n cap, .func (.func F) #[] caps] w fun e w' => ∃ i, e = .returned (.int .i64 i) ∧ IdxP l pr i ∧ Fr [] w w' := by
  have hn : n = l.length := by
    obtain ⟨A', cap', h1, -⟩ := h
    injection h1
  have H := Lib.hid h
  have HC := Lib.hid hC
  have Hn := Lib.hid hn
  have Hl := Lib.hid hl
  clear h hC hn hl
  go_enter Try.func62, Try.ntmps62
  go_wp2_with fail
  go_loopg [8] n (fun gg v wr => ∃ k : Nat, k + gg = n ∧ v = .int .i64 (k : Int) ∧ (∀ j' k', j' < k → l[j']? = some k' → pr k' = false) ∧ Fr [] w wr)
  case atStart => exact ⟨0, by omega, rfl, fun j' k' h => by omega, Fr.refl _ _⟩
  case round =>
    obtain ⟨k, hk, rfl, hno, hfr⟩ := hrel
    have Hk := Lib.hid hk
    have Hno := Lib.hid hno
    have Hfr := Lib.hid hfr
    clear hk hno hfr
    by_cases hlt : k < n
    · have hlt' : (k : Int) < (n : Int) := by omega
      have hk0 : (0 : Int) ≤ (k : Int) := by omega
      have hw : IntKind.i64.wrap ((k : Int) + 1) = (k : Int) + 1 := IntWalk.i64_in _ (by have := Hn.out; have := Hl.out; omega)
      obtain ⟨x, hx⟩ : ∃ x, l[k]? = some x := ⟨_, List.getElem?_eq_getElem (by have := Hn.out; omega)⟩
      obtain ⟨q, o, rfl, hq, c0, c1, c2⟩ := (H.out.fr Hfr.out (NoK.nil _)).cell hx
      have hcall := Lib.hid (HC.out x wr Hfr.out)
      have Hx := Lib.hid hx
      clear hx
      cases hp : pr x with
      | true =>
        rw [hp] at hcall
        go_wp2_with (first | (refine hcall.out.mono ?_; rintro e w2 ⟨rfl, hf2⟩))
        go_ret
        exact ⟨k, rfl, .inr ⟨k, x, rfl, Hx.out, hp, Hno.out⟩, Hfr.out.trans hf2⟩
      | false =>
        rw [hp] at hcall
        go_wp2_with (first | (refine hcall.out.mono ?_; rintro e w2 ⟨rfl, hf2⟩))
        go_roundg (n - (k + 1))
        case measure => have := Hk.out; omega
        case rel =>
          refine ⟨k + 1, by have := Hk.out; omega, by go_num, fun j' k' hj hx => ?_, Hfr.out.trans hf2⟩
          by_cases hjk : j' = k
          · subst hjk
            rw [Hx.out] at hx
            injection hx with hx
            rw [← hx]
            exact hp
          · exact Hno.out j' k' (by omega) hx
    · have hlt' : ¬ (k : Int) < (n : Int) := by omega
      go_wp2_with fail
      go_ret
      refine ⟨-1, rfl, .inl ⟨rfl, fun x hx => ?_⟩, Hfr.out⟩
      obtain ⟨j, hj⟩ := List.mem_iff_getElem?.1 hx
      have hjn : j < l.length := (List.getElem?_eq_some_iff.1 hj).1
      exact Hno.out j x (by have := Hn.out; omega) hj
end Go.Proofs.Ythmnloapjdalpaa
namespace Go.Proofs.Ythmnloapjdalpaa
open Go.RowKit
set_option linter.unusedVariables false
set_option linter.unusedSimpArgs false
/-- A row of blocks of the cache that may be written: so many of them, as f says. -/
def RowK (w : World) (g cap n : Nat) (f : Nat → Kp) : Prop := ∃ cs, Blk w g 117 cs ∧ cs.size = cap * 3 ∧ ∀ j, j < n → cs[j * 3]? = some (kc0 (f j)) ∧ cs[j * 3 + 1]? = some (kc1 (f j)) ∧ cs[j * 3 + 2]? = some (kc2 (f j))
theorem RowK.fr {w w' : World} {g cap n : Nat} {f : Nat → Kp} {S : List Nat} (h : RowK w g cap n f) (hf : Fr S w w') (hg : g ∉ S) : RowK w' g cap n f := by
  obtain ⟨cs, hb, h1, h2⟩ := h
  exact ⟨cs, hb.fr hf hg, h1, h2⟩
theorem RowK.cell {w : World} {g cap n : Nat} {f : Nat → Kp} (h : RowK w g cap n f) {j : Nat} (hj : j < n) : w.cell? ⟨g, j * 3, none⟩ = some (kc0 (f j)) ∧ w.cell? ⟨g, j * 3 + 1, none⟩ = some (kc1 (f j)) ∧ w.cell? ⟨g, j * 3 + 2, none⟩ = some (kc2 (f j)) := by
  obtain ⟨cs, hb, h1, h2⟩ := h
  rw [hb.cell, hb.cell, hb.cell]
  exact h2 j hj
theorem RowK.frozen {w : World} {g cap n : Nat} {f : Nat → Kp} (h : RowK w g cap n f) (j : Nat) : w.frozen? ⟨g, j, none⟩ = false := by
  obtain ⟨cs, hb, h1, h2⟩ := h
  exact hb.frozen j
theorem RowK.set_ {w : World} {g cap n : Nat} {f : Nat → Kp} (h : RowK w g cap n f) {i : Nat} (k : Kp) (hi : i < cap) : RowK (((w.setCell ⟨g, i * 3, none⟩ (kc0 k)).setCell ⟨g, i * 3 + 1, none⟩ (kc1 k)).setCell ⟨g, i * 3 + 2, none⟩ (kc2 k)) g cap n (fun j => if j = i then k else f j) := by
  obtain ⟨cs, hb, h1, h2⟩ := h
  refine ⟨_, ((hb.set_ (i * 3) (kc0 k)).set_ (i * 3 + 1) (kc1 k)).set_ (i * 3 + 2) (kc2 k), by simp [h1], fun j hj => ?_⟩
  simp only [Array.getElem?_setIfInBounds, Array.size_setIfInBounds]
  by_cases e : j = i
  · subst e
    refine ⟨?_, ?_, ?_⟩
    · rw [if_neg (by omega), if_neg (by omega), if_pos rfl, if_pos (by omega), if_pos rfl]
    · rw [if_neg (by omega), if_pos rfl, if_pos (by omega), if_pos rfl]
    · rw [if_pos rfl, if_pos (by omega), if_pos rfl]
  · obtain ⟨a, b, c⟩ := h2 j hj
    refine ⟨?_, ?_, ?_⟩
    · rw [if_neg (by omega), if_neg (by omega), if_neg (by omega), if_neg e]; exact a
    · rw [if_neg (by omega), if_neg (by omega), if_neg (by omega), if_neg e]; exact b
    · rw [if_neg (by omega), if_neg (by omega), if_neg (by omega), if_neg e]; exact c
theorem Blk.setCells {g : Nat} {t : TypeId} : ∀ (vs : List Value) (o : Nat) (w : World) (cs : Array Value), Blk w g t cs → ∃ cs', Blk (w.setCells g o vs) g t cs' ∧ cs'.size = cs.size ∧ ∀ j, j < o → cs'[j]? = cs[j]? := by
  intro vs
  induction vs with
  | nil => intro o w cs h; exact ⟨cs, h, rfl, fun _ _ => rfl⟩
  | cons v vs ih =>
    intro o w cs h
    obtain ⟨cs', h1, h2, h3⟩ := ih (o + 1) _ _ (h.set_ o v)
    refine ⟨cs', h1, by rw [h2]; simp, fun j hj => ?_⟩
    rw [h3 j (by omega), Array.getElem?_setIfInBounds, if_neg (by omega)]
theorem RowK.clear {w : World} {g cap n i : Nat} {f : Nat → Kp} (h : RowK w g cap n f) (vs : List Value) (hi : i ≤ n) : RowK (w.setCells g (i * 3) vs) g cap i f := by
  obtain ⟨cs, hb, h1, h2⟩ := h
  obtain ⟨cs', h3, h4, h5⟩ := Blk.setCells vs (i * 3) w cs hb
  refine ⟨cs', h3, by rw [h4, h1], fun j hj => ?_⟩
  rw [h5 _ (by omega), h5 _ (by omega), h5 _ (by omega)]
  exact h2 j (by omega)
theorem RowK.own {w : World} {g cap n B : Nat} {f : Nat → Kp} {l : List Kp} (h : RowK w g cap n f) (hB : B ≤ g) (hl : l.length = n) (hf : ∀ j, j < n → l[j]? = some (f j)) (hn : n ≤ cap) (hc : cap ≤ maxLen) : KOwn B w (.slice (some ⟨g, 0, none⟩) n cap) l := by
  obtain ⟨cs, hb, h1, h2⟩ := h
  unfold KOwn
  rw [hl]
  refine ⟨by rw [kcs_len, hl], .inr ⟨g, cap, cs, rfl, hB, hb, hn, hc, h1, ?_⟩⟩
  refine List.ext_getElem? fun j => ?_
  rw [List.getElem?_take]
  by_cases hj : j < n * 3
  · rw [if_pos hj]
    obtain ⟨a, b, c⟩ := h2 (j / 3) (by omega)
    obtain ⟨k0, k1, k2⟩ := kcs_get l (j / 3) (f (j / 3)) (hf _ (by omega))
    have h3 : j = j / 3 * 3 ∨ j = j / 3 * 3 + 1 ∨ j = j / 3 * 3 + 2 := by omega
    rcases h3 with e | e | e
    · rw [← e] at a k0
      rw [k0]
      simpa using a
    · rw [← e] at b k1
      rw [k1]
      simpa using b
    · rw [← e] at c k2
      rw [k2]
      simpa using c
  · rw [if_neg hj, List.getElem?_eq_none (by rw [kcs_len, hl]; omega)]
theorem KOwn.row {B : Nat} {w : World} {A : Option Addr} {n cap : Nat} {l : List Kp} (h : KOwn B w (.slice A n cap) l) (hn : n = l.length) (h0 : 0 < n) : ∃ g f, A = some ⟨g, 0, none⟩ ∧ B ≤ g ∧ RowK w g cap n f ∧ n ≤ cap ∧ cap ≤ maxLen ∧ ∀ j, j < n → l[j]? = some (f j) := by
  unfold KOwn at h
  rw [← hn] at h
  rcases h.2 with ⟨h1, h2⟩ | ⟨g, cap', cur, e, hB, hh, h3, h4, h5, h6⟩
  · omega
  · injection e with e1 _ e2
    subst e2
    have hlt : ∀ j, j < n → j < l.length := fun j hj => by omega
    refine ⟨g, fun j => (l[j]?).getD ⟨0, ⟨#[]⟩, 0⟩, e1, hB, ⟨cur, hh, h5, fun j hj => ?_⟩, h3, h4, fun j hj => by simp only [List.getElem?_eq_getElem (hlt j hj), Option.getD_some]⟩
    have hx : l[j]? = some l[j] := List.getElem?_eq_getElem (hlt j hj)
    obtain ⟨k0, k1, k2⟩ := kcs_get l j _ hx
    have get : ∀ a u, (kcs l)[a]? = some u → cur[a]? = some u := fun a u hu => by
      rw [← h6, List.getElem?_take] at hu
      split at hu
      · simpa using hu
      · cases hu
    simp only [hx, Option.getD_some]
    exact ⟨get _ _ k0, get _ _ k1, get _ _ k2⟩
theorem elem111 : Try.prog.elem 111 = 117 := by kernel_rfl
theorem sizeOf117 (w : World) : (Go.sizeOf 117).run Try.prog w = .ok 3 w := by kernel_rfl
theorem kslice_l (w : World) (g o len cap a : Nat) (la : Int) (ha : la = a) (h1 : a < len) (h2 : len ≤ cap) :
    (Instr.slice 111 (.slice (some ⟨g, o, none⟩) len cap) (some (.int .i64 la)) none none).run Try.prog w = .ok (.slice (some ⟨g, o + a * 3, none⟩) (len - a) (cap - a)) w := by
  subst ha
  rw [run_slice_l (P := Try.prog) w 111 (some ⟨g, o, none⟩) len cap (by rw [elem111]; exact Try.underlying111) .i64 a (by omega) (by omega), elem111, sizeOf117]
  have h4 : ¬ cap = a := by omega
  simp [Result.andThen, sliced, h4, Addr.add]
theorem kslice_h (w : World) (g o len cap b : Nat) (lb : Int) (hb : lb = b) (h2 : b ≤ cap) (h0 : 0 < cap) :
    (Instr.slice 111 (.slice (some ⟨g, o, none⟩) len cap) none (some (.int .i64 lb)) none).run Try.prog w = .ok (.slice (some ⟨g, o, none⟩) b cap) w := by
  subst hb
  rw [run_slice_h (P := Try.prog) w 111 (some ⟨g, o, none⟩) len cap (by rw [elem111]; exact Try.underlying111) .i64 b (by omega) (by omega), elem111, sizeOf117]
  simp [Result.andThen, sliced, Addr.add]
theorem zero117 (w : World) : (zeroValue 117).run Try.prog w = .ok (.agg #[.int .i64 0, .string ⟨#[]⟩, .int .i64 0]) w := by kernel_rfl
theorem zeros_len (m : Nat) : (Builtin.zeroCells (Value.agg #[.int .i64 0, .string ⟨#[]⟩, .int .i64 0]).cells m).toList.length = m * 3 := by
  have e : (Value.agg #[.int .i64 0, .string ⟨#[]⟩, .int .i64 0]).cells = #[.int .i64 0, .string ⟨#[]⟩, .int .i64 0] := rfl
  rw [e]
  simp [Builtin.zeroCells]
theorem zeros_one (m : Nat) : ∀ v ∈ (Builtin.zeroCells (Value.agg #[.int .i64 0, .string ⟨#[]⟩, .int .i64 0]).cells m).toList, v.oneCell' = true := by
  have e : (Value.agg #[.int .i64 0, .string ⟨#[]⟩, .int .i64 0]).cells = #[.int .i64 0, .string ⟨#[]⟩, .int .i64 0] := rfl
  rw [e]
  intro v hv
  unfold Builtin.zeroCells at hv
  rw [Array.toList_map, List.mem_map] at hv
  obtain ⟨i, -, rfl⟩ := hv
  show ((#[.int .i64 0, .string ⟨#[]⟩, .int .i64 0] : Array Value)[i % 3]!).oneCell' = true
  have h3 : i % 3 = 0 ∨ i % 3 = 1 ∨ i % 3 = 2 := by omega
  rcases h3 with h | h | h <;> rw [h] <;> rfl
theorem RowK.some_ {w : World} {g cap n : Nat} {f : Nat → Kp} (h : RowK w g cap n f) {j : Nat} (hj : j < cap * 3) : (w.cell? ⟨g, j, none⟩).isSome = true := by
  obtain ⟨cs, hb, h1, h2⟩ := h
  rw [hb.cell, Array.getElem?_eq_getElem (by omega)]
  rfl
/-- 'clear(s)': zero values from a place on; nothing else turns. -/
theorem run_clear_k (w : World) (ty : TypeId) (z : Value) (hv : ∀ w, (zeroValue 117).run Try.prog w = .ok z w) (b o n c : Nat) (hn : 0 < n) (h1 : ∀ v ∈ (Builtin.zeroCells z.cells n).toList, v.oneCell' = true)
    (hc : ∀ j, j < (Builtin.zeroCells z.cells n).toList.length → (w.cell? ⟨b, o + j, none⟩).isSome = true) (hf : ∀ j, j < (Builtin.zeroCells z.cells n).toList.length → w.frozen? ⟨b, o + j, none⟩ = false) :
    (Builtin.clear_ #[111] ty #[.slice (some ⟨b, o, none⟩) n c]).run Try.prog w = .ok (.tuple #[]) (w.setCells b o (Builtin.zeroCells z.cells n).toList) := by
  have hst := run_storeCells_cells (P := Try.prog) b o (Builtin.zeroCells z.cells n).toList 0 w (by simpa using hc) (by simpa using hf) h1
  simp only [Nat.add_zero] at hst
  obtain ⟨m, rfl⟩ : ∃ m, n = m + 1 := ⟨n - 1, by omega⟩
  simp [Builtin.clear_, run_underlying Try.underlying111, hv, hst]
theorem first_ex (pr : Kp → Bool) : ∀ l : List Kp, (∀ k, k ∈ l → pr k = false) ∨ ∃ (j : Nat) (k : Kp), l[j]? = some k ∧ pr k = true ∧ ∀ (j' : Nat) (k' : Kp), j' < j → l[j']? = some k' → pr k' = false := by
  intro l
  induction l with
  | nil => exact .inl (fun k hk => by cases hk)
  | cons a l ih =>
    cases ha : pr a with
    | true => exact .inr ⟨0, a, rfl, ha, fun j' k' h => by omega⟩
    | false =>
      rcases ih with h | ⟨j, k, h1, h2, h3⟩
      · exact .inl (fun k hk => by
          rcases List.mem_cons.1 hk with rfl | hk
          · exact ha
          · exact h k hk)
      · refine .inr ⟨j + 1, k, h1, h2, fun j' k' hj hx => ?_⟩
        cases j' with
        | zero => injection hx with hx; rw [← hx]; exact ha
        | succ j' => exact h3 j' k' (by omega) hx
theorem idx_none {l : List Kp} {pr : Kp → Bool} {i : Int} (h : IdxP l pr i) (hn : ∀ k, k ∈ l → pr k = false) : i = -1 := by
  rcases h with ⟨h1, -⟩ | ⟨j, k, -, h2, h3, -⟩
  · exact h1
  · have := hn k (List.mem_of_getElem? h2)
    rw [h3] at this
    cases this
theorem idx_some {l : List Kp} {pr : Kp → Bool} {i : Int} (h : IdxP l pr i) {a : Nat} {ka : Kp} (h1 : l[a]? = some ka) (h2 : pr ka = true) (h3 : ∀ j' k', j' < a → l[j']? = some k' → pr k' = false) : i = (a : Int) := by
  rcases h with ⟨-, h4⟩ | ⟨j, k, rfl, h4, h5, h6⟩
  · have := h4 ka (List.mem_of_getElem? h1)
    rw [h2] at this
    cases this
  · rcases Nat.lt_trichotomy j a with h | h | h
    · have := h3 j k h h4
      rw [h5] at this
      cases this
    · rw [h]
    · have := h6 a ka h h1
      rw [h2] at this
      cases this
set_option maxRecDepth 100000 in
theorem delF_any (w0 : World) (A : Option Addr) (n cap : Nat) (l : List Kp) (F : FuncId) (caps : Array Value) (pr : Kp → Bool) (w : World) (h0 : Fr [] w0 w) (h : KOwn w0.heap.size w (.slice A n cap) l) (hl : l.length ≤ 100)
    (eF : ∀ args W, (callFunc F args).run Try.prog W = .ok (.enter F args) W)
    (hC : ∀ (k : Kp) (W : World), Fr [] w0 W → Calls Try.prog F (#[kv k] ++ caps) W fun e w' => e = .returned (.bool (pr k)) ∧ Fr [] W w') :
    Calls Try.prog 100 #[.slice A n cap, .func (.func F) #[] caps] w fun e w' => ∃ A' m cap', e = .returned (.slice A' m cap') ∧ m = (l.filter fun k => !pr k).length ∧ KOwn w0.heap.size w' (.slice A' m cap') (l.filter fun k => !pr k) ∧ Fr [] w0 w' := by
  have hks := h.ks
  have hn : n = l.length := by
    obtain ⟨A', cap', h1, -⟩ := hks
    injection h1
  have hI := Lib.hid (indexF_any A n cap l F caps pr w hks hl eF (fun k W hf => hC k W (h0.trans hf)))
  have H := Lib.hid h
  have H0 := Lib.hid h0
  have HC := Lib.hid hC
  have Hn := Lib.hid hn
  have Hl := Lib.hid hl
  clear h hC hn hl h0 hks
  rcases first_ex pr l with hnone | ⟨a, ka, hka, hpa, hno⟩
  · have hI2 := Lib.hid (hI.out.mono (R' := fun e w' => e = .returned (.int .i64 (-1)) ∧ Fr [] w w') (fun e w' ⟨i, he, hx, hf⟩ => ⟨by rw [he, idx_none hx hnone], hf⟩))
    have hfl : l.filter (fun k => !pr k) = l := List.filter_eq_self.2 (fun k hk => by rw [hnone k hk]; rfl)
    clear hI hnone
    go_enter Try.func100, Try.ntmps100
    go_wp2_with (go_at_call 62; refine hI2.out.mono ?_; rintro e w1 ⟨rfl, hf1⟩)
    go_ret
    exact ⟨A, n, cap, rfl, by rw [hfl]; exact Hn.out, by rw [hfl]; exact H.out.kept hf1, H0.out.trans hf1⟩
  · have hI2 := Lib.hid (hI.out.mono (R' := fun e w' => e = .returned (.int .i64 (a : Int)) ∧ Fr [] w w') (fun e w' ⟨i, he, hx, hf⟩ => ⟨by rw [he, idx_some hx hka hpa hno], hf⟩))
    clear hI
    have hneg' : ¬ (a : Int) = -1 := by omega
    have han : a < n := by have := (List.getElem?_eq_some_iff.1 hka).1; have := Hn.out; omega
    have han2 : n ≤ 100 := by have := Hn.out; have := Hl.out; omega
    have hw1 : IntKind.i64.wrap ((a : Int) + 1) = (a : Int) + 1 := IntWalk.i64_in _ (by omega)
    obtain ⟨g, f0, rfl, hB, hrow, hcap, hmax, hf0⟩ := H.out.row Hn.out (by omega)
    have Hst := Lib.hid (show ((l.take (a + 1)).filter fun k => !pr k).length = a ∧ ∀ b, b < a → ((l.take (a + 1)).filter fun k => !pr k)[b]? = some (f0 b) by
      have e1 : l.take (a + 1) = l.take a ++ [ka] := by rw [List.take_add_one, hka]; rfl
      have e2 : (l.take a).filter (fun k => !pr k) = l.take a := List.filter_eq_self.2 (fun k hk => by
        obtain ⟨j, hj⟩ := List.mem_iff_getElem?.1 hk
        rw [List.getElem?_take] at hj
        split at hj
        · rename_i hja
          rw [hno j k hja hj]; rfl
        · cases hj)
      rw [e1, List.filter_append, e2]
      have e3 : ([ka].filter fun k => !pr k) = [] := by simp [hpa]
      rw [e3, List.append_nil]
      refine ⟨by rw [List.length_take]; have := Hn.out; omega, fun b hb => ?_⟩
      rw [List.getElem?_take, if_pos hb]
      exact hf0 b (by omega))
    have HR := Lib.hid hrow
    have Hb := Lib.hid (And.intro hB (And.intro hcap hmax))
    have Hf0 := Lib.hid hf0
    have Ha := Lib.hid (And.intro han han2)
    clear hrow hB hcap hmax hf0 hno hka hpa
    go_enter Try.func100, Try.ntmps100
    go_wp2_with (go_at_call 62; refine hI2.out.mono ?_; rintro e w1 ⟨rfl, hf1⟩; have Hf1 := Lib.hid hf1; clear hf1)
    go_loopg [5, 6] (n - (a + 1)) (fun gg vi vj wr => ∃ (i j : Nat) (f : Nat → Kp), j + gg = n ∧ i < j ∧ vi = .int .i64 (i : Int) ∧ vj = .int .i64 (j : Int) ∧ RowK wr g cap n f ∧ Fr [] w0 wr ∧
      ((l.take j).filter fun k => !pr k).length = i ∧ (∀ b, b < i → ((l.take j).filter fun k => !pr k)[b]? = some (f b)) ∧ ∀ b, j ≤ b → b < n → l[b]? = some (f b))
    case atStart => exact ⟨a, a + 1, f0, by have := Ha.out; omega, by omega, rfl, by go_num, HR.out.fr Hf1.out (by simp), H0.out.trans Hf1.out, Hst.out.1, Hst.out.2, fun b _ h2 => Hf0.out b h2⟩
    case round =>
      obtain ⟨i, j, f, hj, hij, rfl, rfl, hrow, hfr, hlen, hpre, hsuf⟩ := hrel
      have Hj := Lib.hid (And.intro hj hij)
      have Hrow := Lib.hid hrow
      have Hfr := Lib.hid hfr
      have Hlen := Lib.hid hlen
      have Hpre := Lib.hid hpre
      have Hsuf := Lib.hid hsuf
      clear hj hij hrow hfr hlen hpre hsuf HR Hst
      by_cases hlt : j < n
      · have hlt' : (j : Int) < (n : Int) := by omega
        have hj0 : (0 : Int) ≤ (j : Int) := by omega
        have hwj : IntKind.i64.wrap ((j : Int) + 1) = (j : Int) + 1 := IntWalk.i64_in _ (by have := Ha.out; omega)
        have hx := Hsuf.out j (Nat.le_refl _) hlt
        obtain ⟨c0, c1, c2⟩ := Hrow.out.cell hlt
        have hnx : l.take (j + 1) = l.take j ++ [f j] := by rw [List.take_add_one, hx]; rfl
        generalize hk : f j = k at *
        have HcF := Lib.hid (fun W hf => HC.out k W hf)
        have Hnx := Lib.hid hnx
        have hfa : Fr [] w0 (wr.alloc (.cells #[.int .i64 k.at_, .string k.data, .int .i64 k.stamp] 117)) := Hfr.out.alloc _
        have hcall := Lib.hid (HcF.out _ hfa)
        have hra := Lib.hid (Hrow.out.fr ((Fr.refl [] wr).alloc (.cells #[.int .i64 k.at_, .string k.data, .int .i64 k.stamp] 117)) (by simp))
        have hba := Lib.hid (Blk.new wr 117 #[.int .i64 k.at_, .string k.data, .int .i64 k.stamp])
        have Hfa := Lib.hid hfa
        clear hfa hnx hx
        cases hp : pr k with
        | true =>
          rw [hp] at hcall
          go_wp2_with (first | (refine hcall.out.mono ?_; rintro e w2 ⟨rfl, hf2⟩))
          go_roundg (n - (j + 1))
          case measure => have := Hj.out; omega
          case rel =>
            have e3 : ((l.take (j + 1)).filter fun k => !pr k) = (l.take j).filter fun k => !pr k := by
              rw [Hnx.out, List.filter_append]
              simp [hp]
            exact ⟨i, j + 1, f, by have := Hj.out; omega, by have := Hj.out; omega, rfl, by go_num, hra.out.fr hf2 (by simp), Hfa.out.trans hf2, by rw [e3]; exact Hlen.out, by rw [e3]; exact Hpre.out, fun b h1 h2 => Hsuf.out b (by omega) h2⟩
        | false =>
          rw [hp] at hcall
          have hin : i < n := by have := Hj.out; omega
          have hi0 : (0 : Int) ≤ (i : Int) := by omega
          have hin' : (i : Int) < (n : Int) := by omega
          have hwi : IntKind.i64.wrap ((i : Int) + 1) = (i : Int) + 1 := IntWalk.i64_in _ (by have := Ha.out; omega)
          go_wp2_with (first | (refine hcall.out.mono ?_; rintro e w2 ⟨rfl, hf2⟩; have hr2 := hra.out.fr hf2 (by simp); obtain ⟨d0, d1, d2⟩ := hr2.cell hin; have fz := hr2.frozen; have b0 := hf2.cell_some (hba.out.cell 0) (by simp); have b1 := hf2.cell_some (hba.out.cell 1) (by simp); have b2 := hf2.cell_some (hba.out.cell 2) (by simp); simp at b0 b1 b2; have Hr2 := Lib.hid hr2; have Hf2 := Lib.hid hf2; clear hr2 hf2))
          go_roundg (n - (j + 1))
          case measure => have := Hj.out; omega
          case rel =>
            have e3 : ((l.take (j + 1)).filter fun k => !pr k) = ((l.take j).filter fun k => !pr k) ++ [k] := by
              rw [Hnx.out, List.filter_append]
              simp [hp]
            refine ⟨i + 1, j + 1, (fun b => if b = i then k else f b), by have := Hj.out; omega, by have := Hj.out; omega, by go_num, by go_num, Hr2.out.set_ k (by have := Hb.out; omega), (((Hfa.out.trans Hf2.out).setCell (.inr Hb.out.1) _).setCell (.inr Hb.out.1) _).setCell (.inr Hb.out.1) _, by rw [e3, List.length_append, Hlen.out]; rfl, fun b hb => ?_, fun b h1 h2 => ?_⟩
            · rw [e3]
              by_cases hbi : b = i
              · subst hbi
                rw [List.getElem?_append_right (by rw [Hlen.out]; exact Nat.le_refl _), Hlen.out, Nat.sub_self]
                simp
              · rw [List.getElem?_append_left (by rw [Hlen.out]; omega)]
                simp only [if_neg hbi]
                exact Hpre.out b (by omega)
            · have := Hj.out
              simp only [if_neg (show ¬ b = i by omega)]
              exact Hsuf.out b (by omega) h2
      · have hlt' : ¬ (j : Int) < (n : Int) := by omega
        have hjn : j = n := by have := Hj.out; omega
        have hin : i < n := by have := Hj.out; omega
        have htk : l.take j = l := List.take_of_length_le (by have := Hn.out; omega)
        rw [htk] at Hlen Hpre
        have hcap := Hb.out.2.1
        have m1 := fun wx => kslice_l wx g 0 n cap i (i : Int) rfl hin hcap
        have m2 := fun wx => kslice_h wx g 0 n cap i (i : Int) rfl (by omega) (by omega)
        rw [Nat.zero_add] at m1
        have hzl := zeros_len (n - i)
        obtain ⟨zs, hzs⟩ : ∃ zs, (Builtin.zeroCells (Value.agg #[.int .i64 0, .string ⟨#[]⟩, .int .i64 0]).cells (n - i)).toList = zs := ⟨_, rfl⟩
        have hcl := fun ty => run_clear_k wr ty _ zero117 g (i * 3) (n - i) (cap - i) (by omega) (zeros_one _) (fun b hb => by rw [hzl] at hb; exact Hrow.out.some_ (by omega)) (fun b hb => Hrow.out.frozen _)
        rw [hzs] at hcl hzl
        have Hfin := Lib.hid (Hrow.out.clear zs (by omega : i ≤ n))
        have HfrE := Lib.hid (Fr.setCells (.inr Hb.out.1) zs (i * 3) _ Hfr.out)
        clear hzs
        generalize wr.setCells g (i * 3) zs = WE at *
        go_wp2_with fail
        go_ret
        refine ⟨some ⟨g, 0, none⟩, i, cap, rfl, Hlen.out.symm, ?_, HfrE.out⟩
        exact Hfin.out.own Hb.out.1 Hlen.out Hpre.out (by omega) Hb.out.2.2
end Go.Proofs.Ythmnloapjdalpaa

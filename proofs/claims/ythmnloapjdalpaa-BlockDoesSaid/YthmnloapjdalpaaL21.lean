/- What a cache holds is what is read without it: the plain part. Two extents over two disks. -/
import Derived.Test.YthmnloapjdalpaaDz
namespace Go.Proofs.Ythmnloapjdalpaa
open Go.RowKit
set_option linter.unusedVariables false
set_option linter.unusedSimpArgs false
/-- What is cached is what a read would tell. -/
def Coh (b : Bv) (d : Dk) : Prop := ∀ k, k ∈ b.cache → 0 ≤ k.at_ ∧ k.at_ < b.count ∧ ParseR (d.sec (b.first + k.at_.toNat)) = .tuple #[.string k.data, .int .i64 k.stamp, .int .i64 0]
theorem touchL_mem {l : List Kp} {k x : Kp} {c : Nat} (h : x ∈ touchL l k c) : (x ∈ l ∧ x.at_ ≠ k.at_) ∨ x = k := by
  unfold touchL touchR at h
  have h2 := List.mem_of_mem_drop h
  rw [List.mem_append, List.mem_filter, List.mem_singleton] at h2
  rcases h2 with ⟨h3, h4⟩ | h3
  · exact .inl ⟨h3, by simpa using h4⟩
  · exact .inr h3
theorem Coh.touch {b : Bv} {d : Dk} (h : Coh b d) {k : Kp} (hk : 0 ≤ k.at_ ∧ k.at_ < b.count ∧ ParseR (d.sec (b.first + k.at_.toNat)) = .tuple #[.string k.data, .int .i64 k.stamp, .int .i64 0]) : Coh (b.touch k) d := by
  intro x hx
  rcases touchL_mem hx with ⟨h1, -⟩ | rfl
  · exact h x h1
  · exact hk
theorem Coh.miss {b : Bv} {d : Dk} (h : Coh b d) : Coh b.miss d := h
theorem find_mem {b : Bv} {i : Int} {k : Kp} (h : b.find i = some k) : k ∈ b.cache ∧ k.at_ = i := by
  unfold Bv.find at h
  exact ⟨List.mem_of_find?_eq_some h, by have := List.find?_some h; simpa using this⟩
theorem Coh.readB {b : Bv} {d : Dk} (h : Coh b d) (i : Int) : Coh (b.readB d i) d := by
  unfold Bv.readB
  split
  · exact h
  · rename_i ha
    obtain ⟨-, h1, h2⟩ := askedE_ok (b := b) (d := d) (i := i) (by omega)
    split
    · rename_i k hk
      exact h.touch (h k (find_mem hk).1)
    · split
      · rename_i hp
        refine Coh.touch (b := b.miss) h.miss ⟨h1, h2, ?_⟩
        show ParseR (d.sec (b.first + i.toNat)) = _
        unfold ParseR
        rw [hp]
      · exact h.miss
/-- A read tells the same with a cache and without. -/
theorem Coh.readV {b b' : Bv} {d : Dk} (h : Coh b d) (h' : Coh b' d) (hf : b'.first = b.first) (hc : b'.count = b.count) (i : Int) : b.readV d i = b'.readV d i := by
  have ha : askedE b' d i = askedE b d i := by unfold askedE; rw [hc]
  have key : ∀ (x : Bv), Coh x d → x.first = b.first → x.count = b.count → askedE x d i = 0 → x.readV d i = ParseR (d.sec (b.first + i.toNat)) := fun x hx e1 e2 e3 => by
    unfold Bv.readV
    rw [if_neg (by omega)]
    cases hk : x.find i with
    | none => simp only []; rw [e1]
    | some k =>
      obtain ⟨m1, m2⟩ := find_mem hk
      obtain ⟨-, -, m3⟩ := hx k m1
      simp only []
      rw [← m3, e1, m2]
  by_cases h0 : askedE b d i = 0
  · rw [key b h rfl rfl h0, key b' h' hf hc (by rw [ha]; exact h0)]
  · unfold Bv.readV
    rw [ha, if_pos h0, if_pos h0]
theorem settleB (d : Dk) (a b i : Nat) (h : a ≤ i ∧ i < b) (j : Nat) (hj : j < 128) : (d.settle a b).s (i * 128 + j) = rdB d (i * 128 + j) := by
  show (if _ then _ else _) = _
  rw [if_pos (by omega)]
theorem settleU (d : Dk) (a b i : Nat) (h : a ≤ i ∧ i < b) : (d.settle a b).u i = none := by
  show (if _ then none else _) = none
  rw [if_pos h]
theorem settleN (d : Dk) (a b i : Nat) (h : a ≤ i ∧ i < b) (hd : d.u i = none) : (d.settle a b).sec i = d.sec i := by
  rw [sec_none (settleU d a b i h), sec_none hd]
  refine bs_congr fun j hj => ?_
  rw [settleB d a b i h j hj]
  unfold rdB
  rw [show (i * 128 + j) / 128 = i by omega, hd]
theorem settleS (d : Dk) (a b i : Nat) (h : a ≤ i ∧ i < b) {t : ByteArray} (hd : d.u i = some t) (ht : t.size = 128) : (d.settle a b).sec i = d.sec i := by
  rw [sec_none (settleU d a b i h), sec_some hd]
  refine at8_ext (by rw [bs_size, ht]) fun j hj => ?_
  rw [bs_size] at hj
  rw [at8_bs hj, settleB d a b i h j hj]
  unfold rdB
  rw [show (i * 128 + j) / 128 = i by omega, hd]
  simp only []
  rw [show (i * 128 + j) % 128 = j by omega]
theorem settleF (d : Dk) (a b i : Nat) (h : ¬ (a ≤ i ∧ i < b)) : (d.settle a b).sec i = d.sec i := by
  have hu : (d.settle a b).u i = d.u i := by show (if _ then none else d.u i) = _; rw [if_neg h]
  cases hd : d.u i with
  | none =>
    rw [sec_none (hu.trans hd), sec_none hd]
    refine bs_congr fun j hj => ?_
    show (if _ then _ else d.s _) = _
    rw [if_neg (by omega)]
  | some t => rw [sec_some (hu.trans hd), sec_some hd]
theorem settle_sec' {d : Dk} (hok : d.Ok) (a b i : Nat) : (d.settle a b).sec i = d.sec i := by
  by_cases h : a ≤ i ∧ i < b
  · cases hd : d.u i with
    | none => exact (settleN d a b i h hd)
    | some t => exact (settleS d a b i h hd (hok.un i t hd).2)
  · exact settleF d a b i h
theorem writeE_same {b b' : Bv} (hf : b'.first = b.first) (hc : b'.count = b.count) (d : Dk) (i : Int) (t : ByteArray) (n : Int) : b'.writeE d i t n = b.writeE d i t n ∧ b'.writeD d i t n = b.writeD d i t n := by
  have ha : askedE b' d i = askedE b d i := by unfold askedE; rw [hc]
  unfold Bv.writeE Bv.writeD
  rw [ha, hf]
  exact ⟨rfl, rfl⟩
theorem barrier_same {b b' : Bv} (hf : b'.first = b.first) (hc : b'.count = b.count) (d : Dk) : b'.barrierE d = b.barrierE d ∧ b'.barrierD d = b.barrierD d := by
  unfold Bv.barrierE Bv.barrierD
  rw [hf, hc]
  exact ⟨rfl, rfl⟩
theorem Coh.write {b : Bv} {d : Dk} (h : Coh b d) (hc : d.Calm) (hin : b.first + b.count ≤ d.n) (i : Int) (t : ByteArray) (n : Int) : Coh (b.writeB d i t n) (b.writeD d i t n) := by
  by_cases ha : askedE b d i = 0
  · by_cases hb : bytesE t n = 0
    · obtain ⟨-, h1, h2⟩ := askedE_ok ha
      have hw0 : d.writeE0 ((b.first : Int) + i) (bytesV t n) = 0 := by
        unfold Dk.writeE0
        rw [hc.d, if_neg (by simp), if_neg (by omega), if_neg (by rw [bytesV_ok hb]; omega)]
      have e1 : b.writeE d i t n = 0 := by
        unfold Bv.writeE
        rw [if_neg (by omega), if_neg (by omega), hc.writeE, hw0]
      have e2 : b.writeD d i t n = d.put (b.first + i.toNat) (bytesV t n) := by
        unfold Bv.writeD
        rw [if_neg (by omega), if_neg (by omega), hc.writeS, if_pos hw0]
        congr 1
        omega
      unfold Bv.writeB
      rw [e1, if_neg (by omega), e2]
      have sec : ∀ j, (d.put (b.first + i.toNat) (bytesV t n)).sec j = if j = b.first + i.toNat then bytesV t n else d.sec j := fun j => by
        by_cases e : j = b.first + i.toNat
        · rw [if_pos e]
          exact sec_some (show (if j = b.first + i.toNat then some (bytesV t n) else d.u j) = some _ from if_pos e)
        · rw [if_neg e]
          have : (d.put (b.first + i.toNat) (bytesV t n)).u j = d.u j := if_neg e
          unfold Dk.sec
          rw [this]
          rfl
      intro x hx
      rcases touchL_mem hx with ⟨m1, m2⟩ | rfl
      · obtain ⟨k1, k2, k3⟩ := h x m1
        refine ⟨k1, k2, ?_⟩
        have hne : x.at_ ≠ i := m2
        show ParseR ((d.put _ _).sec (b.first + x.at_.toNat)) = _
        rw [sec, if_neg (by omega)]
        exact k3
      · refine ⟨h1, h2, ?_⟩
        show ParseR ((d.put _ _).sec (b.first + i.toNat)) = _
        rw [sec, if_pos rfl, parseR_bytes hb, (parse_bytes hb).2.1]
    · have e1 : b.writeE d i t n ≠ 0 := by unfold Bv.writeE; rw [if_neg (by omega), if_pos hb]; exact hb
      have e2 : b.writeD d i t n = d := by unfold Bv.writeD; rw [if_neg (by omega), if_pos hb]
      unfold Bv.writeB
      rw [if_pos e1, e2]
      exact h
  · have e1 : b.writeE d i t n ≠ 0 := by unfold Bv.writeE; rw [if_pos ha]; exact ha
    have e2 : b.writeD d i t n = d := by unfold Bv.writeD; rw [if_pos ha]
    unfold Bv.writeB
    rw [if_pos e1, e2]
    exact h
theorem Coh.sec {b : Bv} {d d' : Dk} (h : Coh b d) (hs : ∀ i, i < b.count → d'.sec (b.first + i) = d.sec (b.first + i)) : Coh b d' := by
  intro k hk
  obtain ⟨h1, h2, h3⟩ := h k hk
  exact ⟨h1, h2, by rw [hs _ (by omega)]; exact h3⟩
theorem Coh.barrier {b : Bv} {d : Dk} (h : Coh b d) (hok : d.Ok) (hc : d.Calm) : Coh b (b.barrierD d) := by
  unfold Bv.barrierD
  rw [hc.d]
  simp only [Bool.false_eq_true, if_false]
  rw [hc.flushS]
  split
  · exact h.sec fun i hi => settle_sec' hok _ _ _
  · exact h
theorem Coh.nil {b : Bv} (h : b.cache = []) (d : Dk) : Coh b d := by
  intro k hk
  rw [h] at hk
  cases hk
/-- Without a cache. -/
structure Bare (b : Bv) : Prop where
  k : b.cached = 0
  l : b.cache = []
theorem touchL_zero (l : List Kp) (k : Kp) : touchL l k 0 = [] := by
  unfold touchL
  rw [Nat.sub_zero, List.drop_length]
theorem Bare.touch {b : Bv} (h : Bare b) (k : Kp) : Bare (b.touch k) := ⟨h.k, by
  show touchL b.cache k b.cached = []
  rw [h.k, touchL_zero]⟩
theorem Bare.readB {b : Bv} (h : Bare b) (d : Dk) (i : Int) : Bare (b.readB d i) := by
  unfold Bv.readB
  split
  · exact h
  · split
    · exact h.touch _
    · split
      · exact Bare.touch (b := b.miss) ⟨h.k, h.l⟩ _
      · exact ⟨h.k, h.l⟩
theorem Bare.writeB {b : Bv} (h : Bare b) (d : Dk) (i : Int) (t : ByteArray) (n : Int) : Bare (b.writeB d i t n) := by
  unfold Bv.writeB
  split
  · exact h
  · exact h.touch _
theorem readB_bad {b : Bv} {d : Dk} {i : Int} (h : askedE b d i ≠ 0) : b.readB d i = b := if_pos h
theorem readB_ok {b : Bv} {d : Dk} {i : Int} (h : askedE b d i = 0) : (∃ k, b.readB d i = b.touch k) ∨ (∃ k, b.readB d i = b.miss.touch k) ∨ b.readB d i = b.miss := by
  unfold Bv.readB
  rw [if_neg (by omega)]
  cases b.find i with
  | some k => exact .inl ⟨k, rfl⟩
  | none =>
    simp only []
    split
    · exact .inr (.inl ⟨_, rfl⟩)
    · exact .inr (.inr rfl)
theorem Bare.misses {b : Bv} (h : Bare b) (d : Dk) (i : Int) (ha : askedE b d i = 0) : (b.readB d i).misses = b.misses + 1 := by
  unfold Bv.readB
  rw [if_neg (by omega)]
  have hf : b.find i = none := by unfold Bv.find; rw [h.l]; rfl
  rw [hf]
  simp only []
  split <;> rfl
theorem misses_le (b : Bv) (d : Dk) (i : Int) (ha : askedE b d i = 0) : (b.readB d i).misses ≤ b.misses + 1 := by
  rcases readB_ok ha with ⟨k, e⟩ | ⟨k, e⟩ | e
  · rw [e]; exact Nat.le_succ _
  · rw [e]; exact Nat.le_refl _
  · rw [e]; exact Nat.le_refl _
theorem asked_calm {b : Bv} {d : Dk} (h : d.Calm) (i : Int) : askedE b d i = 0 ∨ askedE b d i = 151 := by
  unfold askedE
  rw [h.d]
  simp only [Bool.false_eq_true, if_false]
  split
  · exact .inr rfl
  · exact .inl rfl
theorem parseE_not (s : ByteArray) : parseE s ≠ 151 := by
  unfold parseE
  split
  · decide
  · split <;> decide
end Go.Proofs.Ythmnloapjdalpaa
namespace Go.Proofs.Ythmnloapjdalpaa
open Go.RowKit
set_option linter.unusedVariables false
set_option linter.unusedSimpArgs false
structure Duo (w0 w : World) (v1 p1 : Nat) (b1 : Bv) (d1 : Dk) (v2 p2 : Nat) (b2 : Bv) (d2 : Dk) : Prop where
  fr : Fr [] w0 w
  ex : ∃ g1 m1 g2 m2, DiskAt w p1 g1 m1 d1 ∧ DiskAt w p2 g2 m2 d2 ∧ (∀ k, k ∈ [v1, p1, g1, m1] → w0.heap.size ≤ k ∧ k ∉ [v2, p2, g2, m2]) ∧ ∀ k, k ∈ [v2, p2, g2, m2] → w0.heap.size ≤ k
  dev1 : DevAt w v1 p1 b1
  dev2 : DevAt w v2 p2 b2
  in1 : b1.first + b1.count ≤ d1.n
  in2 : b2.first + b2.count ≤ d2.n
/-- Calls that were loaded stay. -/
def Keeps44 (w w' : World) : Prop := ∀ bx cs, Blk w bx 44 cs → Blk w' bx 44 cs
section
variable {w0 w : World} {v1 p1 : Nat} {b1 : Bv} {d1 : Dk} {v2 p2 : Nat} {b2 : Bv} {d2 : Dk}
theorem Duo.to {w' : World} (h : Duo w0 w v1 p1 b1 d1 v2 p2 b2 d2) (hf : Fr [] w w') : Duo w0 w' v1 p1 b1 d1 v2 p2 b2 d2 := by
  obtain ⟨f, ⟨g1, m1, g2, m2, a1, a2, x, y⟩, e1, e2, i1, i2⟩ := h
  exact ⟨f.trans hf, ⟨g1, m1, g2, m2, a1.to hf, a2.to hf, x, y⟩, e1.to hf, e2.to hf, i1, i2⟩
theorem Duo.symm (h : Duo w0 w v1 p1 b1 d1 v2 p2 b2 d2) : Duo w0 w v2 p2 b2 d2 v1 p1 b1 d1 := by
  obtain ⟨f, ⟨g1, m1, g2, m2, a1, a2, x, y⟩, e1, e2, i1, i2⟩ := h
  exact ⟨f, ⟨g2, m2, g1, m1, a2, a1, fun k hk => ⟨y k hk, fun hk' => (x k hk').2 hk⟩, fun k hk => (x k hk).1⟩, e2, e1, i2, i1⟩
theorem Duo.left {F : FuncId} {args : Array Value} {V : Value} {b1' : Bv} {d1' : Dk} (h : Duo w0 w v1 p1 b1 d1 v2 p2 b2 d2)
    (C : ∀ z, Dvz z w w v1 p1 b1 d1 → Calls Try.prog F args w fun e w' => e = .returned V ∧ Dvz z w w' v1 p1 b1' d1') :
    Calls Try.prog F args w fun e w' => e = .returned V ∧ Duo w0 w' v1 p1 b1' d1' v2 p2 b2 d2 ∧ Keeps44 w w' := by
  obtain ⟨f, ⟨g1, m1, g2, m2, a1, a2, x, y⟩, e1, e2, i1, i2⟩ := h
  have hz : Dvz [v1, p1, g1, m1] w w v1 p1 b1 d1 := ⟨⟨Fr.refl _ _, g1, m1, a1, .inl (by simp), .inl (by simp), .inl (by simp)⟩, e1, .inl (by simp), i1⟩
  refine (C _ hz).mono fun e w' ⟨he, hd⟩ => ⟨he, ?_⟩
  obtain ⟨⟨hf, g1', m1', a1', q1, q2, q3⟩, ed, qv, i1'⟩ := hd
  obtain ⟨ok1, cv1, hb1, hk1⟩ := e1
  have hnz : NoZ w [v1, p1, g1, m1] := fun k hk cs mk he => by
    simp only [List.mem_cons, List.not_mem_nil, or_false] at hk
    rcases hk with rfl | hk
    · exact hb1.noZ (by decide) _ (by simp) cs mk he
    · exact a1.noz k (by simpa using hk) cs mk he
  have hnk : NoK w [v1, p1, g1, m1] := fun k hk cs mk he => by
    simp only [List.mem_cons, List.not_mem_nil, or_false] at hk
    rcases hk with rfl | hk
    · exact hb1.noK (by decide) _ (by simp) cs mk he
    · exact a1.nok k (by simpa using hk) cs mk he
  have far : ∀ k, k ∈ [v2, p2, g2, m2] → k ∉ [v1, p1, g1, m1] := fun k hk hk' => (x k hk').2 hk
  have a2' : DiskAt w' p2 g2 m2 d2 := a2.fr hf hnz (far _ (by simp)) (far _ (by simp)) (far _ (by simp))
  have e2' : DevAt w' v2 p2 b2 := e2.fr hf hnk (far _ (by simp))
  have hlt : ∀ k, k ∈ [v2, p2, g2, m2] → k < w.heap.size := fun k hk => by
    simp only [List.mem_cons, List.not_mem_nil, or_false] at hk
    rcases hk with rfl | rfl | rfl | rfl
    · exact e2.lt
    · exact a2.ltp
    · exact a2.ltg
    · exact a2.ltm
  have hs := f.size
  have one : ∀ k, (k ∈ [v1, p1, g1, m1] ∨ w.heap.size ≤ k) → w0.heap.size ≤ k ∧ k ∉ [v2, p2, g2, m2] := fun k hk => by
    rcases hk with hk | hk
    · exact x k hk
    · exact ⟨by omega, fun h2 => by have := hlt k h2; omega⟩
  have keep : Keeps44 w w' := fun bx cs hbx => hbx.fr hf (fun hk => by
    simp only [List.mem_cons, List.not_mem_nil, or_false] at hk
    rcases hk with rfl | rfl | rfl | rfl
    · exact hbx.ne_type hb1 (by decide) rfl
    · obtain ⟨ok, ⟨cap, cv, hb', hc, hm, hz'⟩, sb, um⟩ := a1
      exact hbx.ne_type hb' (by decide) rfl
    · exact a1.sb.not hbx (by decide)
    · exact a1.um.not_cells hbx)
  refine ⟨⟨f.step hf (fun k hk => .inr (x k hk).1), ⟨g1', m1', g2, m2, a1', a2', fun k hk => one k ?_, y⟩, ed, e2', i1', i2⟩, keep⟩
  simp only [List.mem_cons, List.not_mem_nil, or_false] at hk
  rcases hk with rfl | rfl | rfl | rfl
  · exact qv
  · exact q1
  · exact q2
  · exact q3
theorem Duo.right {F : FuncId} {args : Array Value} {V : Value} {b2' : Bv} {d2' : Dk} (h : Duo w0 w v1 p1 b1 d1 v2 p2 b2 d2)
    (C : ∀ z, Dvz z w w v2 p2 b2 d2 → Calls Try.prog F args w fun e w' => e = .returned V ∧ Dvz z w w' v2 p2 b2' d2') :
    Calls Try.prog F args w fun e w' => e = .returned V ∧ Duo w0 w' v1 p1 b1 d1 v2 p2 b2' d2' ∧ Keeps44 w w' := (h.symm.left C).mono fun e w' ⟨he, hd, hk⟩ => ⟨he, hd.symm, hk⟩
theorem Duo.ok1 (h : Duo w0 w v1 p1 b1 d1 v2 p2 b2 d2) : d1.Ok := by
  obtain ⟨f, ⟨g1, m1, g2, m2, a1, a2, x, y⟩, e1, e2, i1, i2⟩ := h
  exact a1.ok
theorem Duo.image1 (h : Duo w0 w v1 p1 b1 d1 v2 p2 b2 d2) : Calls Try.prog 28 #[ptr p1] w fun e w' => e = .returned (.string d1.image) ∧ Duo w0 w' v1 p1 b1 d1 v2 p2 b2 d2 := by
  have h' := h
  obtain ⟨f, ⟨g1, m1, g2, m2, a1, a2, x, y⟩, e1, e2, i1, i2⟩ := h
  exact (Image_any p1 g1 m1 d1 w a1).mono fun e w' ⟨he, hf⟩ => ⟨he, h'.to hf⟩
theorem Duo.image2 (h : Duo w0 w v1 p1 b1 d1 v2 p2 b2 d2) : Calls Try.prog 28 #[ptr p2] w fun e w' => e = .returned (.string d2.image) ∧ Duo w0 w' v1 p1 b1 d1 v2 p2 b2 d2 := h.symm.image1.mono fun e w' ⟨he, hd⟩ => ⟨he, hd.symm⟩
theorem Duo.fixed15 (h : Duo w0 w v1 p1 b1 d1 v2 p2 b2 d2) : Calls Try.prog 19 #[] w fun e w' => e = .returned (.bool true) ∧ Duo w0 w' v1 p1 b1 d1 v2 p2 b2 d2 := (fixed15_any w).mono fun e w' ⟨he, hf⟩ => ⟨he, h.to hf⟩
end
theorem Duo.made {w0 w1 w2 w3 w4 : World} {v1 p1 v2 p2 : Nat} {b1 b2 : Bv} {d1 d2 : Dk} (h1 : Dd w0 w1 p1 d1) (h2 : Dd w1 w2 p2 d2) (f3 : Fr [] w2 w3) (e1 : DevAt w3 v1 p1 b1) (q1 : w2.heap.size ≤ v1) (f4 : Fr [] w3 w4) (e2 : DevAt w4 v2 p2 b2) (q2 : w3.heap.size ≤ v2)
    (i1 : b1.first + b1.count ≤ d1.n) (i2 : b2.first + b2.count ≤ d2.n) : Duo w0 w4 v1 p1 b1 d1 v2 p2 b2 d2 := by
  obtain ⟨f1, g1, m1, a1, x1, x2, x3⟩ := h1
  obtain ⟨f2, g2, m2, a2, y1, y2, y3⟩ := h2
  have s1 := f1.size
  have s2 := f2.size
  have s3 := f3.size
  have s4 := f4.size
  have l1 := a1.ltp
  have l2 := a1.ltg
  have l3 := a1.ltm
  have k1 := a2.ltp
  have k2 := a2.ltg
  have k3 := a2.ltm
  have e1l := e1.lt
  refine ⟨f1.trans (f2.trans (f3.trans f4)), ⟨g1, m1, g2, m2, a1.to (f2.trans (f3.trans f4)), a2.to (f3.trans f4), fun k hk => ?_, fun k hk => ?_⟩, e1.to f4, e2, i1, i2⟩
  · simp only [List.mem_cons, List.not_mem_nil, or_false] at hk ⊢
    omega
  · simp only [List.mem_cons, List.not_mem_nil, or_false] at hk
    omega
theorem NewB_new {w0 w : World} {p : Nat} {d : Dk} (h : Dd w0 w p d) (f c k : Int) (hE : newBE d f c k = 0) : Calls Try.prog 23 #[ptr p, .int .i64 f, .int .i64 c, .int .i64 k] w fun e w' => ∃ v, e = .returned (.tuple #[ptr v, .int .i64 0]) ∧ Dv w0 w' v p (newB f c k) d ∧ w.heap.size ≤ v ∧ Fr [] w w' := by
  obtain ⟨h1, h2, h3, h4, h5, h6⟩ := newBE_ok hE
  have hn := h.ok.n2
  have hC := Lib.hid h.count
  have hw : IntKind.i64.wrap ((d.n : Int) - f) = (d.n : Int) - f := IntWalk.i64_in _ (by omega)
  obtain ⟨N, hN⟩ : ∃ N, d.n = N := ⟨_, rfl⟩
  have hok : (newB f c k).Ok := ⟨by show f.toNat ≤ 4096; omega, by show c.toNat ≤ 4096; omega, by show k.toNat ≤ 16; omega, by show 0 ≤ 16; omega⟩
  have Hend := Lib.hid (show ∃ v, Ending.returned (.tuple #[ptr w.heap.size, .int .i64 0]) = .returned (.tuple #[ptr v, .int .i64 0]) ∧ Dv w0 (w.alloc (.cells #[ptr p, .int .i64 f, .int .i64 c, .int .i64 k, .slice none 0 0, .int .i64 0] 113)) v p (newB f c k) d ∧ w.heap.size ≤ v ∧ Fr [] w (w.alloc (.cells #[ptr p, .int .i64 f, .int .i64 c, .int .i64 k, .slice none 0 0, .int .i64 0] 113)) from ⟨w.heap.size, rfl, ⟨h.to ((Fr.refl [] w).alloc _), ⟨hok, _, by
    have := Blk.new w 113 #[ptr p, .int .i64 f, .int .i64 c, .int .i64 k, .slice none 0 0, .int .i64 0]
    show Blk _ _ 113 #[ptr p, .int .i64 (f.toNat : Int), .int .i64 (c.toNat : Int), .int .i64 (k.toNat : Int), .slice none 0 0, .int .i64 0]
    rw [show ((f.toNat : Nat) : Int) = f by omega, show ((c.toNat : Nat) : Int) = c by omega, show ((k.toNat : Nat) : Int) = k by omega]
    exact this, KS.nil _⟩, h.fr.size, by show f.toNat + c.toNat ≤ d.n; omega⟩, Nat.le_refl _, (Fr.refl [] w).alloc _⟩)
  rw [hN] at hw h3 h4 hC
  clear h hE hok hn
  go_enter Try.func23, Try.ntmps23
  go_wp2_with (go_at_call 29; refine hC.out.mono ?_; rintro e w1 ⟨rfl, rfl⟩)
  go_ret2
  exact Hend.out
end Go.Proofs.Ythmnloapjdalpaa

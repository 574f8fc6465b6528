/- What is cached with the power going; an extent's clone; an extent and the document's, side by side. An extent and the document's, each over its disk: a side. -/
import Derived.Test.YthmnloapjdalpaaV4
namespace Go.Proofs.Ythmnloapjdalpaa
open Go.RowKit
set_option linter.unusedVariables false
set_option linter.unusedSimpArgs false
theorem tick_sec (d : Dk) (j : Nat) : d.tick.sec j = d.sec j := by
  unfold Dk.tick
  split <;> rfl
theorem tick_dead (d : Dk) : d.tick.dead = d.dead := by
  unfold Dk.tick
  split <;> rfl
/-- What is cached is what a read would tell, while there is power. -/
def CohD (b : Bv) (d : Dk) : Prop := d.dead = false → Coh b d
theorem CohD.write {b : Bv} {d : Dk} (h0 : CohD b d) (hin : b.first + b.count ≤ d.n) (i : Int) (t : ByteArray) (n : Int) : CohD (b.writeB d i t n) (b.writeD d i t n) := by
  intro hdd
  by_cases ha : askedE b d i = 0
  · obtain ⟨hd, h1, h2⟩ := askedE_ok ha
    have h := h0 hd
    by_cases hb : bytesE t n = 0
    · have hw0 : d.writeE0 ((b.first : Int) + i) (bytesV t n) = 0 := by
        unfold Dk.writeE0
        rw [hd, if_neg (by simp), if_neg (by omega), if_neg (by rw [bytesV_ok hb]; omega)]
      have hwD : b.writeD d i t n = d.writeS ((b.first : Int) + i) (bytesV t n) := by
        unfold Bv.writeD
        rw [if_neg (by omega), if_neg (by omega)]
      have hwE : b.writeE d i t n = d.writeE ((b.first : Int) + i) (bytesV t n) := by
        unfold Bv.writeE
        rw [if_neg (by omega), if_neg (by omega)]
      have hidx : ((b.first : Int) + i).toNat = b.first + i.toNat := by omega
      cases hg : d.gone with
      | true =>
        rw [hwD] at hdd
        unfold Dk.writeS at hdd
        rw [if_pos hw0, hg, if_pos rfl] at hdd
        cases hdd
      | false =>
        have e1 : b.writeE d i t n = 0 := by
          rw [hwE]
          unfold Dk.writeE
          rw [if_pos hw0, hg]
          rfl
        have e2 : b.writeD d i t n = (d.put (b.first + i.toNat) (bytesV t n)).tick := by
          rw [hwD]
          unfold Dk.writeS
          rw [if_pos hw0, hg, hidx]
          rfl
        unfold Bv.writeB
        rw [e1, if_neg (by omega), e2]
        have sec : ∀ j, ((d.put (b.first + i.toNat) (bytesV t n)).tick).sec j = if j = b.first + i.toNat then bytesV t n else d.sec j := fun j => by
          rw [tick_sec]
          by_cases e : j = b.first + i.toNat
          · rw [if_pos e]
            exact sec_some (show (if j = b.first + i.toNat then some (bytesV t n) else d.u j) = some _ from if_pos e)
          · rw [if_neg e]
            have : (d.put (b.first + i.toNat) (bytesV t n)).u j = d.u j := if_neg e
            unfold Dk.sec
            rw [this]
            rfl
        intro x hx
        rcases touchL_mem hx with ⟨m1, m2⟩ | rfl
        · obtain ⟨k1, k2, k3⟩ := h x m1
          refine ⟨k1, k2, ?_⟩
          have hne : x.at_ ≠ i := m2
          show ParseR ((Dk.tick (d.put _ _)).sec (b.first + x.at_.toNat)) = _
          rw [sec, if_neg (by omega)]
          exact k3
        · refine ⟨h1, h2, ?_⟩
          show ParseR ((Dk.tick (d.put _ _)).sec (b.first + i.toNat)) = _
          rw [sec, if_pos rfl, parseR_bytes hb, (parse_bytes hb).2.1]
    · have e1 : b.writeE d i t n ≠ 0 := by unfold Bv.writeE; rw [if_neg (by omega), if_pos hb]; exact hb
      have e2 : b.writeD d i t n = d := by unfold Bv.writeD; rw [if_neg (by omega), if_pos hb]
      unfold Bv.writeB
      rw [if_pos e1, e2]
      exact h
  · have e1 : b.writeE d i t n ≠ 0 := by unfold Bv.writeE; rw [if_pos ha]; exact ha
    have e2 : b.writeD d i t n = d := by unfold Bv.writeD; rw [if_pos ha]
    rw [e2] at hdd
    unfold Bv.writeB
    rw [if_pos e1, e2]
    exact h0 hdd
theorem CohD.read {b : Bv} {d : Dk} (h : CohD b d) (i : Int) : CohD (b.readB d i) d := fun hd => (h hd).readB i
theorem CohD.barrier {b : Bv} {d : Dk} (h0 : CohD b d) (hok : d.Ok) : CohD b (b.barrierD d) := by
  intro hdd
  rw [(barrier_eq b d).2] at hdd ⊢
  unfold Dk.flushS at hdd ⊢
  by_cases hE : d.flushE0 b.first b.count = 0
  · rw [if_pos hE] at hdd ⊢
    cases hg : d.gone with
    | true => rw [hg, if_pos rfl] at hdd; cases hdd
    | false =>
      rw [hg, if_neg (by simp)] at hdd
      rw [if_neg (by simp)]
      have hd : d.dead = false := by
        have : (d.tick.settle (b.first : Int).toNat ((b.first : Int) + (b.count : Int)).toNat).dead = d.tick.dead := rfl
        rw [this, tick_dead] at hdd
        exact hdd
      exact (h0 hd).sec fun i hi => by rw [settle_sec' hok.tick, tick_sec]
  · rw [if_neg hE] at hdd ⊢
    exact h0 hdd
theorem CohD.arm {b : Bv} {d : Dk} (h0 : CohD b d) (x : Int) (l : List Int) : CohD b (d.armS x l) := by
  intro hdd
  unfold Dk.armS at hdd ⊢
  split at hdd
  · rename_i hE
    rw [if_pos hE]
    exact (h0 hdd).sec fun i hi => rfl
  · rename_i hE
    rw [if_neg hE]
    exact h0 hdd
theorem armS_n (d : Dk) (x : Int) (l : List Int) : (d.armS x l).n = d.n := by
  unfold Dk.armS
  split <;> rfl
theorem crashS_n (d : Dk) (l : List Int) : (d.crashS l).n = d.n := by
  unfold Dk.crashS
  split <;> rfl
theorem readB_fc (b : Bv) (d : Dk) (i : Int) : (b.readB d i).first = b.first ∧ (b.readB d i).count = b.count := by
  unfold Bv.readB
  split
  · exact ⟨rfl, rfl⟩
  · split
    · exact ⟨rfl, rfl⟩
    · split <;> exact ⟨rfl, rfl⟩
theorem writeB_fc (b : Bv) (d : Dk) (i : Int) (t : ByteArray) (n : Int) : (b.writeB d i t n).first = b.first ∧ (b.writeB d i t n).count = b.count := by
  unfold Bv.writeB
  split <;> exact ⟨rfl, rfl⟩
theorem writeD_n (b : Bv) (d : Dk) (i : Int) (t : ByteArray) (n : Int) : (b.writeD d i t n).n = d.n := by
  unfold Bv.writeD
  split
  · rfl
  · split
    · rfl
    · exact writeS_n _ _ _
theorem barrierD_n (b : Bv) (d : Dk) : (b.barrierD d).n = d.n := by
  rw [(barrier_eq b d).2]
  exact flushS_n _ _ _
set_option maxRecDepth 100000 in
theorem Clone15_any (v p r : Nat) (b : Bv) (w : World) (h : DevAt w v p b) : Calls Try.prog 39 #[ptr v, ptr r] w fun e w' => ∃ v', e = .returned (ptr v') ∧ DevAt w' v' r b ∧ Fr [] w w' ∧ w.heap.size ≤ v' := by
  obtain ⟨cv, ⟨c0, c1, c2, c3, c4, c5, fz⟩, hk⟩ := h.cells
  have hok := h.ok
  have hk' := hk
  obtain ⟨A, cap, rfl, -⟩ := hk
  have hfa : Fr [] w (w.alloc (.cells #[ptr p, .int .i64 b.first, .int .i64 b.count, .int .i64 b.cached, .slice A b.cache.length cap, .int .i64 b.misses] 113)) := (Fr.refl [] w).alloc _
  have hbk := Blk.new w 113 #[ptr p, .int .i64 b.first, .int .i64 b.count, .int .i64 b.cached, .slice A b.cache.length cap, .int .i64 b.misses]
  have H76 := Lib.hid (cloneK_any A b.cache.length cap b.cache _ (hk'.fr hfa (NoK.nil _)) (by have := hok.l; omega))
  have hc4 := hfa.cell_some c4 (by simp)
  have HE := Lib.hid (fun W A' cap' (hf : Fr [] (w.alloc (.cells #[ptr p, .int .i64 b.first, .int .i64 b.count, .int .i64 b.cached, .slice A b.cache.length cap, .int .i64 b.misses] 113)) W) (ho : KS W (.slice A' b.cache.length cap') b.cache) =>
    (show (W.cell? ⟨w.heap.size, 0, none⟩ = some (ptr p) ∧ W.cell? ⟨w.heap.size, 4, none⟩ = some (.slice A b.cache.length cap) ∧ W.frozen? ⟨w.heap.size, 0, none⟩ = false ∧ W.frozen? ⟨w.heap.size, 4, none⟩ = false) ∧ DevAt ((W.setCell ⟨w.heap.size, 0, none⟩ (ptr r)).setCell ⟨w.heap.size, 4, none⟩ (.slice A' b.cache.length cap')) w.heap.size r b ∧ Fr [] w ((W.setCell ⟨w.heap.size, 0, none⟩ (ptr r)).setCell ⟨w.heap.size, 4, none⟩ (.slice A' b.cache.length cap')) from by
      have hb1 := hbk.fr hf (by simp)
      have hf2 : Fr [w.heap.size] W ((W.setCell ⟨w.heap.size, 0, none⟩ (ptr r)).setCell ⟨w.heap.size, 4, none⟩ (.slice A' b.cache.length cap')) := ((Fr.refl [w.heap.size] W).setCell (p := ⟨w.heap.size, 0, none⟩) (.inl (by simp)) _).setCell (p := ⟨w.heap.size, 4, none⟩) (.inl (by simp)) _
      exact ⟨⟨hb1.cell 0, hb1.cell 4, hb1.frozen 0, hb1.frozen 4⟩, ⟨hok, _, (hb1.set_ 0 (ptr r)).set_ 4 _, ho.fr hf2 (hb1.noK (by decide))⟩, (hfa.trans hf).step hf2 (fun k hk => .inr (by simp at hk; omega))⟩))
  clear h hk' hok hfa hbk fz
  generalize b.first = f at *
  generalize b.count = c at *
  generalize b.cached = k at *
  generalize b.misses = ms at *
  obtain ⟨WX, hWX⟩ : ∃ WX, w.alloc (.cells #[ptr p, .int .i64 f, .int .i64 c, .int .i64 k, .slice A b.cache.length cap, .int .i64 ms] 113) = WX := ⟨_, rfl⟩
  rw [hWX] at H76 HE hc4
  go_enter Try.func39, Try.ntmps39
  go_wp2_with (go_at_call 76; refine H76.out.mono ?_; rintro e w2 ⟨A', cap', rfl, ho, hf2⟩; obtain ⟨⟨k0, k4, f0, f4⟩, hD, hF⟩ := HE.out _ _ _ hf2 ho.ks; have HD := Lib.hid hD; have HF := Lib.hid hF; clear hD hF ho hf2)
  go_ret
  exact ⟨w.heap.size, rfl, HD.out, HF.out, Nat.le_refl _⟩
end Go.Proofs.Ythmnloapjdalpaa
namespace Go.Proofs.Ythmnloapjdalpaa
open Go.RowKit
set_option linter.unusedVariables false
set_option linter.unusedSimpArgs false
/-- The side's struct in block s: the program's extent v over the disk p, the reference's y over q; all blocks are among z, or were made since w0. -/
structure Sq (z : List Nat) (w0 w : World) (s v p y q : Nat) (b b' : Bv) (d d' : Dk) : Prop where
  pr : Prz z w0 w p q d d'
  dv : DevAt w v p b
  v0 : v ∈ z ∨ w0.heap.size ≤ v
  iv : b.first + b.count ≤ d.n
  rv : RvAt w y q b'
  y0 : y ∈ z ∨ w0.heap.size ≤ y
  iy : b'.first + b'.count ≤ d'.n
  sd : Blk w s 69 #[ptr v, ptr p, ptr y, ptr q]
  s0 : s ∈ z ∨ w0.heap.size ≤ s
theorem DevAt.blk {w : World} {v p : Nat} {b : Bv} (h : DevAt w v p b) : ∃ cs, Blk w v 113 cs := by
  obtain ⟨ok, cv, hb, hk⟩ := h
  exact ⟨_, hb⟩
theorem Blk.not {w : World} {k : Nat} {t t' : TypeId} {cs : Array Value} (h : Blk w k t cs) (ht : t' ≠ t) : NoT t' w [k] := by
  intro j hj cs' mk' he
  simp at hj
  subst hj
  unfold Blk at h
  rw [h] at he
  injection he with he
  injection he with _ he _
  exact ht he.symm
theorem NoT.app {t : TypeId} {w : World} {S T : List Nat} (h : NoT t w S) (h' : NoT t w T) : NoT t w (S ++ T) := by
  intro k hk
  rcases List.mem_append.1 hk with hk | hk
  · exact h k hk
  · exact h' k hk
section
variable {z : List Nat} {w0 w w' : World} {s v p y q : Nat} {b b' b1 : Bv} {d d' d1 : Dk} {F : FuncId} {args : Array Value} {V : Ending}
theorem Sq.fr (h : Sq z w0 w s v p y q b b' d d') : Fr z w0 w := h.pr.fr
theorem Sq.to (h : Sq z w0 w s v p y q b b' d d') (hf : Fr [] w w') : Sq z w0 w' s v p y q b b' d d' := ⟨h.pr.to hf, h.dv.to hf, h.v0, h.iv, h.rv.to hf, h.y0, h.iy, h.sd.fr hf (by simp), h.s0⟩
/-- A call on the program's extent. -/
theorem Sq.left (h : Sq z w0 w s v p y q b b' d d') (C : ∀ zx, Dvz zx w w v p b d → Calls Try.prog F args w fun e w' => e = V ∧ Dvz zx w w' v p b1 d1) : Calls Try.prog F args w fun e w' => e = V ∧ Sq z w0 w' s v p y q b1 b' d1 d' := by
  obtain ⟨⟨⟨f, g, m, ha, h1, h2, h3⟩, hy, q0⟩, dv, v0, iv, rv, y0, iy, sd, s0⟩ := h
  obtain ⟨c1, hdb⟩ := dv.blk
  obtain ⟨c2, hyb⟩ := rv.blk
  obtain ⟨c3, hqb⟩ := hy.blk
  have hs := f.size
  have hnot : ∀ t, t ≠ 113 → t ≠ 110 → t ≠ 5 → NoT t w [v, p, g, m] := fun t t1 t2 t3 => NoT.app (S := [v]) (hdb.not t1) (ha.not t2 t3)
  have hfar : ∀ k t cs, Blk w k t cs → t ≠ 113 → t ≠ 110 → t ≠ 5 → k ∉ [v, p, g, m] := fun k t cs hb t1 t2 t3 hk => by
    unfold Blk at hb
    exact hnot t t1 t2 t3 k hk _ _ hb
  refine (C _ ⟨⟨Fr.refl [v, p, g, m] w, g, m, ha, .inl (by simp), .inl (by simp), .inl (by simp)⟩, dv, .inl (by simp), iv⟩).mono ?_
  rintro e w' ⟨he, ⟨⟨f', g', m', ha', k1, k2, k3⟩, dv', kv, iv'⟩⟩
  have up : ∀ k, k ∈ [v, p, g, m] ∨ w.heap.size ≤ k → k ∈ z ∨ w0.heap.size ≤ k := by
    intro k hk
    rcases hk with hk | hk
    · simp at hk
      rcases hk with rfl | rfl | rfl | rfl <;> assumption
    · exact .inr (by omega)
  refine ⟨he, ⟨⟨⟨f.step f' (fun k hk => up k (.inl hk)), g', m', ha', up _ k1, up _ k2, up _ k3⟩, ?_, q0⟩, dv', v0, iv', ?_, y0, iy, ?_, s0⟩⟩
  · exact hy.fr f' (hfar _ _ _ hqb (by decide) (by decide) (by decide)) (hnot 129 (by decide) (by decide) (by decide)) (hnot 3 (by decide) (by decide) (by decide))
  · exact rv.fr f' (hfar _ _ _ hyb (by decide) (by decide) (by decide)) (hnot 3 (by decide) (by decide) (by decide))
  · exact sd.fr f' (hfar _ _ _ sd (by decide) (by decide) (by decide))
/-- A call on the reference's extent. -/
theorem Sq.right (h : Sq z w0 w s v p y q b b' d d') (C : Rvd w y q b' d' → Calls Try.prog F args w fun e w' => e = V ∧ RvT y q w b1 d1 w') : Calls Try.prog F args w fun e w' => e = V ∧ Sq z w0 w' s v p y q b b1 d d1 := by
  obtain ⟨⟨⟨f, g, m, ha, h1, h2, h3⟩, hy, q0⟩, dv, v0, iv, rv, y0, iy, sd, s0⟩ := h
  obtain ⟨c1, hdb⟩ := dv.blk
  obtain ⟨c2, hyb⟩ := rv.blk
  obtain ⟨c3, hqb⟩ := hy.blk
  have hnot : ∀ t, t ≠ 77 → t ≠ 127 → NoT t w [y, q] := fun t t1 t2 => NoT.app (S := [y]) (hyb.not t1) (hqb.not t2)
  have hfar : ∀ k t cs, Blk w k t cs → t ≠ 77 → t ≠ 127 → k ∉ [y, q] := fun k t cs hb t1 t2 hk => by
    unfold Blk at hb
    exact hnot t t1 t2 k hk _ _ hb
  have hya := ha.faraway hyb (by decide) (by decide)
  have hqa := ha.faraway hqb (by decide) (by decide)
  simp at hya hqa
  refine (C ⟨rv, hy, iy⟩).mono ?_
  rintro e w' ⟨he, ⟨rv', hy', iy'⟩, f'⟩
  refine ⟨he, ⟨⟨⟨f.step f' (fun k hk => ?_), g, m, ha.fr f' (hnot 3 (by decide) (by decide)) (by simp; omega) (by simp; omega) (by simp; omega), h1, h2, h3⟩, hy', q0⟩, ?_, v0, iv, rv', y0, iy', ?_, s0⟩⟩
  · simp at hk
    rcases hk with rfl | rfl <;> assumption
  · exact dv.fr f' (hnot 117 (by decide) (by decide)) (hfar _ _ _ hdb (by decide) (by decide))
  · exact sd.fr f' (hfar _ _ _ sd (by decide) (by decide))
/-- A call on the program's disk. -/
theorem Sq.disk (h : Sq z w0 w s v p y q b b' d d') (C : ∀ g m, DiskAt w p g m d → Calls Try.prog F args w fun e w' => e = V ∧ Turned p g m w d1 w') (hn : d1.n = d.n) : Calls Try.prog F args w fun e w' => e = V ∧ Sq z w0 w' s v p y q b b' d1 d' := by
  obtain ⟨⟨⟨f, g, m, ha, h1, h2, h3⟩, hy, q0⟩, dv, v0, iv, rv, y0, iy, sd, s0⟩ := h
  obtain ⟨c1, hdb⟩ := dv.blk
  obtain ⟨c2, hyb⟩ := rv.blk
  refine (C g m ha).mono ?_
  rintro e w' ⟨he, hT⟩
  have hP := Prz.turnx f ha h1 h2 h3 hy q0 hT
  obtain ⟨g', m', -, f', -⟩ := hT
  exact ⟨he, ⟨hP, dv.fr f' ha.nok (ha.far hdb), v0, by rw [hn]; exact iv, rv.fr f' (ha.faraway hyb (by decide) (by decide)) ha.noz, y0, iy, sd.fr f' (ha.faraway sd (by decide) (by decide)), s0⟩⟩
/-- A call on the reference's disk. -/
theorem Sq.rdisk (h : Sq z w0 w s v p y q b b' d d') (C : RD w q d' → Calls Try.prog F args w fun e w' => e = V ∧ RTurn q w d1 w') (hn : d1.n = d'.n) : Calls Try.prog F args w fun e w' => e = V ∧ Sq z w0 w' s v p y q b b' d d1 := by
  obtain ⟨hp, dv, v0, iv, rv, y0, iy, sd, s0⟩ := h
  obtain ⟨c1, hdb⟩ := dv.blk
  obtain ⟨c2, hyb⟩ := rv.blk
  obtain ⟨c3, hqb⟩ := hp.y.blk
  have e1 := hdb.ne_type hqb (by decide)
  have e2 := hyb.ne_type hqb (by decide)
  have e3 := sd.ne_type hqb (by decide)
  refine (C hp.y).mono ?_
  rintro e w' ⟨he, hT⟩
  exact ⟨he, ⟨hp.turny hT, dv.fr hT.2 (hqb.noK (by decide)) (by simp; omega), v0, iv, rv.fr hT.2 (by simp; omega) (hqb.noZ (by decide)), y0, by rw [hn]; exact iy, sd.fr hT.2 (by simp; omega), s0⟩⟩
theorem Sq.cells (h : Sq z w0 w s v p y q b b' d d') : w.cell? ⟨s, 0, none⟩ = some (ptr v) ∧ w.cell? ⟨s, 1, none⟩ = some (ptr p) ∧ w.cell? ⟨s, 2, none⟩ = some (ptr y) ∧ w.cell? ⟨s, 3, none⟩ = some (ptr q) := ⟨h.sd.cell 0, h.sd.cell 1, h.sd.cell 2, h.sd.cell 3⟩
theorem Sq.frozen (h : Sq z w0 w s v p y q b b' d d') (j : Nat) : w.frozen? ⟨s, j, none⟩ = false := h.sd.frozen j
/-- The program's extent is made anew. -/
theorem Sq.new (h : Sq z w0 w s v p y q b b' d d') (f c k : Int) (hE : newBE d f c k = 0) : Calls Try.prog 23 #[ptr p, .int .i64 f, .int .i64 c, .int .i64 k] w fun e w' => ∃ v', e = .returned (.tuple #[ptr v', .int .i64 0]) ∧ DevAt w' v' p (newB f c k) ∧ (newB f c k).first + (newB f c k).count ≤ d.n ∧ Sq z w0 w' s v p y q b b' d d' ∧ w.heap.size ≤ v' := by
  obtain ⟨f0, g, m, ha, -⟩ := h.pr.x
  have hD : Dd { w with heap := #[] } w p d := ⟨⟨rfl, rfl, rfl, Nat.zero_le _, fun k hk => absurd hk (by simp)⟩, g, m, ha, Nat.zero_le _, Nat.zero_le _, Nat.zero_le _⟩
  exact (NewB_new hD f c k hE).mono fun e w' ⟨v', he, hv, hs, hf⟩ => ⟨v', he, hv.dev, hv.in_, h.to hf, hs⟩
theorem Sq.rnew (h : Sq z w0 w s v p y q b b' d d') (f c k : Int) (hE : newBE d' f c k = 0) : Calls Try.prog 36 #[ptr q, .int .i64 f, .int .i64 c, .int .i64 k] w fun e w' => ∃ y', e = .returned (.tuple #[ptr y', .int .i64 0]) ∧ RvAt w' y' q (newB f c k) ∧ (newB f c k).first + (newB f c k).count ≤ d'.n ∧ Sq z w0 w' s v p y q b b' d d' ∧ Fr [] w w' ∧ w.heap.size ≤ y' :=
  (rNewB_ok q d' f c k w h.pr.y hE).mono fun e w' ⟨y', he, hv, hi, hf, hs⟩ => ⟨y', he, hv, hi, h.to hf, hf, hs⟩
/-- The side takes other extents. -/
theorem Sq.swap {v' y' : Nat} {n : Bv} (h : Sq z w0 w s v p y q b b' d d') (hv : DevAt w v' p n) (hy : RvAt w y' q n) (i1 : n.first + n.count ≤ d.n) (i2 : n.first + n.count ≤ d'.n) (h1 : w0.heap.size ≤ v') (h2 : w0.heap.size ≤ y') : Sq z w0 ((w.setCell ⟨s, 0, none⟩ (ptr v')).setCell ⟨s, 2, none⟩ (ptr y')) s v' p y' q n n d d' := by
  obtain ⟨⟨⟨f, g, m, ha, k1, k2, k3⟩, hq, q0⟩, dv, v0, iv, rv, y0, iy, sd, s0⟩ := h
  have hf : Fr [s] w ((w.setCell ⟨s, 0, none⟩ (ptr v')).setCell ⟨s, 2, none⟩ (ptr y')) := ((Fr.refl [s] w).setCell (p := ⟨s, 0, none⟩) (.inl (by simp)) _).setCell (p := ⟨s, 2, none⟩) (.inl (by simp)) _
  obtain ⟨c1, hdb⟩ := hv.blk
  obtain ⟨c2, hyb⟩ := hy.blk
  obtain ⟨c3, hqb⟩ := hq.blk
  have e1 := sd.ne_type hdb (by decide)
  have e2 := sd.ne_type hyb (by decide)
  have e3 := sd.ne_type hqb (by decide)
  have e4 := ha.faraway sd (by decide) (by decide)
  simp at e4
  refine ⟨⟨⟨f.step hf (fun k hk => by simp at hk; subst hk; exact s0), g, m, ha.fr hf (sd.noZ (by decide)) (by simp; omega) (by simp; omega) (by simp; omega), k1, k2, k3⟩, hq.fr hf (by simp; omega) (sd.noO (by decide)) (sd.noZ (by decide)), q0⟩, hv.fr hf (sd.noK (by decide)) (by simp; omega), .inr h1, i1, hy.fr hf (by simp; omega) (sd.noZ (by decide)), .inr h2, i2, (sd.set_ 0 (ptr v')).set_ 2 (ptr y'), s0⟩
end
end Go.Proofs.Ythmnloapjdalpaa

/- Extents among others: what their calls turn are their own blocks and new ones. -/
import Derived.Test.YthmnloapjdalpaaL18
namespace Go.Proofs.Ythmnloapjdalpaa
open Go.RowKit
set_option linter.unusedVariables false
set_option linter.unusedSimpArgs false
/-- A disk of which all blocks are among z, or were made since w0. -/
structure Ddz (z : List Nat) (w0 w : World) (p : Nat) (d : Dk) : Prop where
  fr : Fr z w0 w
  at_ : ∃ g m, DiskAt w p g m d ∧ (p ∈ z ∨ w0.heap.size ≤ p) ∧ (g ∈ z ∨ w0.heap.size ≤ g) ∧ (m ∈ z ∨ w0.heap.size ≤ m)
section
variable {z : List Nat} {w0 w : World} {p : Nat} {d : Dk}
theorem Ddz.ok (h : Ddz z w0 w p d) : d.Ok := by
  obtain ⟨f, g, m, ha, -⟩ := h
  exact ha.ok
theorem Ddz.to {w' : World} (h : Ddz z w0 w p d) (hf : Fr [] w w') : Ddz z w0 w' p d := by
  obtain ⟨f, g, m, ha, h1, h2, h3⟩ := h
  exact ⟨f.step hf (fun k hk => by cases hk), g, m, ha.to hf, h1, h2, h3⟩
theorem Ddz.turned {w' : World} {g m : Nat} {d' : Dk} (hf : Fr z w0 w) (h1 : p ∈ z ∨ w0.heap.size ≤ p) (h2 : g ∈ z ∨ w0.heap.size ≤ g) (h3 : m ∈ z ∨ w0.heap.size ≤ m) (ht : Turned p g m w d' w') : Ddz z w0 w' p d' := by
  obtain ⟨g', m', ha, f', hg, hm⟩ := ht
  have hs := hf.size
  refine ⟨hf.step f' (fun k hk => ?_), g', m', ha, h1, ?_, ?_⟩
  · simp at hk
    rcases hk with rfl | rfl | rfl
    · exact h1
    · exact h2
    · exact h3
  · rcases hg with rfl | hg
    · exact h2
    · exact .inr (by omega)
  · rcases hm with rfl | hm
    · exact h3
    · exact .inr (by omega)
theorem Ddz.isDead (h : Ddz z w0 w p d) : Calls Try.prog 66 #[ptr p] w fun e w' => e = .returned (.bool d.dead) ∧ w = w' := by
  obtain ⟨f, g, m, ha, h1, h2, h3⟩ := h
  exact Dead_any p g m d w ha
theorem Ddz.read (h : Ddz z w0 w p d) (i : Int) : Calls Try.prog 65 #[ptr p, .int .i64 i] w (ReadP w d i) := by
  obtain ⟨f, g, m, ha, h1, h2, h3⟩ := h
  exact Read_any p g m d i w ha
end
/-- An extent and its disk, of which all blocks are among z, or were made since w0. -/
structure Dvz (z : List Nat) (w0 w : World) (v p : Nat) (b : Bv) (d : Dk) : Prop where
  dd : Ddz z w0 w p d
  dev : DevAt w v p b
  v0 : v ∈ z ∨ w0.heap.size ≤ v
  in_ : b.first + b.count ≤ d.n
theorem Dvz.to {z : List Nat} {w0 w w' : World} {v p : Nat} {b : Bv} {d : Dk} (h : Dvz z w0 w v p b d) (hf : Fr [] w w') : Dvz z w0 w' v p b d := ⟨h.dd.to hf, h.dev.to hf, h.v0, h.in_⟩
theorem Dvz.disk {z : List Nat} {w0 w w' : World} {v p g m : Nat} {b : Bv} {d d' : Dk} (hf : Fr z w0 w) (ha : DiskAt w p g m d) (h1 : p ∈ z ∨ w0.heap.size ≤ p) (h2 : g ∈ z ∨ w0.heap.size ≤ g) (h3 : m ∈ z ∨ w0.heap.size ≤ m) (hv : DevAt w v p b) (hv0 : v ∈ z ∨ w0.heap.size ≤ v) (hin : b.first + b.count ≤ d'.n) (hT : Turned p g m w d' w') : Dvz z w0 w' v p b d' := by
  refine ⟨Ddz.turned hf h1 h2 h3 hT, ?_, hv0, hin⟩
  obtain ⟨g', m', h1', hf', -⟩ := hT
  obtain ⟨ok, cv, hb, hk⟩ := hv
  exact ⟨ok, cv, hb.fr hf' (ha.far hb), hk.fr hf' ha.nok⟩
theorem Dvz.turn {z : List Nat} {w0 w w' : World} {v p : Nat} {b b' : Bv} {d : Dk} (h : Dvz z w0 w v p b d) (hf : Fr [v] w w') (hv : DevAt w' v p b') (hin : b'.first = b.first ∧ b'.count = b.count) : Dvz z w0 w' v p b' d := by
  obtain ⟨⟨f, g, m, ha, h1, h2, h3⟩, hd, hv0, hi⟩ := h
  obtain ⟨ok, cv, hb, hk⟩ := hd
  have hfar := ha.far hb
  simp at hfar
  refine ⟨⟨f.step hf (fun k hk => by simp at hk; subst hk; exact hv0), g, m, ha.fr hf (hb.noZ (by decide)) (by simp; omega) (by simp; omega) (by simp; omega), h1, h2, h3⟩, hv, hv0, by rw [hin.1, hin.2]; exact hi⟩
theorem asked_z {z : List Nat} {w0 w : World} {v p : Nat} {b : Bv} {d : Dk} (h : Dvz z w0 w v p b d) (i : Int) : Calls Try.prog 61 #[ptr v, .int .i64 i] w fun e w' => e = .returned (.int .i64 (askedE b d i)) ∧ w = w' := by
  obtain ⟨cv, ⟨c0, c1, c2, c3, c4, c5, fz⟩, hk⟩ := h.dev.cells
  have hD := Lib.hid h.dd.isDead
  have E := Lib.hid (show (if d.dead = true then (2 : Int) else if i < 0 ∨ (b.count : Int) ≤ i then 151 else 0) = askedE b d i from rfl)
  clear h hk c1 c3 c4 c5 fz
  generalize askedE b d i = V at *
  generalize b.count = N at *
  cases hd : d.dead with
  | true =>
    rw [hd] at hD
    rw [hd, if_pos rfl] at E
    go_enter Try.func61, Try.ntmps61
    go_wp2_with (go_at_call 66; refine hD.out.mono ?_; rintro e w1 ⟨rfl, rfl⟩)
    go_ret
    exact ⟨ret_int E.out, rfl⟩
  | false =>
    rw [hd] at hD
    rw [hd, if_neg (by simp)] at E
    by_cases h1 : i < 0
    · rw [if_pos (.inl h1)] at E
      go_enter Try.func61, Try.ntmps61
      go_wp2_with (go_at_call 66; refine hD.out.mono ?_; rintro e w1 ⟨rfl, rfl⟩)
      go_ret
      exact ⟨ret_int E.out, rfl⟩
    · by_cases h2 : (N : Int) ≤ i
      · rw [if_pos (.inr h2)] at E
        go_enter Try.func61, Try.ntmps61
        go_wp2_with (go_at_call 66; refine hD.out.mono ?_; rintro e w1 ⟨rfl, rfl⟩)
        go_ret
        exact ⟨ret_int E.out, rfl⟩
      · rw [if_neg (by omega)] at E
        go_enter Try.func61, Try.ntmps61
        go_wp2_with (go_at_call 66; refine hD.out.mono ?_; rintro e w1 ⟨rfl, rfl⟩)
        go_ret
        exact ⟨ret_int E.out, rfl⟩
theorem Dvz.readE {z : List Nat} {w0 w : World} {v p : Nat} {b : Bv} {d : Dk} (h : Dvz z w0 w v p b d) {i : Int} (ha : askedE b d i = 0) : d.readE ((b.first : Int) + i) = 0 ∧ d.readV ((b.first : Int) + i) = d.sec (b.first + i.toNat) := by
  obtain ⟨h1, h2, h3⟩ := askedE_ok ha
  have hin := h.in_
  have e : d.readE ((b.first : Int) + i) = 0 := by
    unfold Dk.readE atE
    rw [h1]
    simp only [Bool.false_eq_true, if_false]
    rw [if_neg (by omega)]
  refine ⟨e, ?_⟩
  unfold Dk.readV
  rw [if_pos e]
  congr 1
  omega
def ReadBZ (z : List Nat) (w0 : World) (v p : Nat) (b' : Bv) (d : Dk) (V : Value) (e : Ending) (w' : World) : Prop := e = .returned V ∧ Dvz z w0 w' v p b' d
set_option maxRecDepth 100000 in
set_option maxHeartbeats 1000000 in
theorem ReadB_z {z : List Nat} {w0 w : World} {v p : Nat} {b : Bv} {d : Dk} (h : Dvz z w0 w v p b d) (i : Int) (hm : b.misses < 9223372036854775807) : Calls Try.prog 24 #[ptr v, .int .i64 i] w (ReadBZ z w0 v p (b.readB d i) d (b.readV d i)) := by
  have hfb : Fr [] w (w.alloc (.cells #[.int .i64 i] 3)) := (Fr.refl [] w).alloc _
  have hbb := Blk.new w 3 #[.int .i64 i]
  have HBox := Lib.hid (fun W (hf : Fr [] (w.alloc (.cells #[.int .i64 i] 3)) W) => (show W.cell? ⟨w.heap.size, 0, none⟩ = some (.int .i64 i) from hf.cell_some (hbb.cell 0) (by simp)))
  have HA := Lib.hid (asked_z (h.to hfb) i)
  have H := Lib.hid (h.to hfb)
  have Hvb := Lib.hid (show v ≠ w.heap.size from by have := h.dev.lt; omega)
  have hk0 := HBox.out _ (Fr.refl _ _)
  clear h hfb
  by_cases ha : askedE b d i = 0
  · obtain ⟨hdead, hi0, hic⟩ := askedE_ok ha
    have hok := H.out.dev.ok
    rw [ha] at HA
    obtain ⟨cv, ⟨c0, c1, c2, c3, c4, c5, fz⟩, hks⟩ := H.out.dev.cells
    obtain ⟨A0, n0, cp0, rfl⟩ : ∃ A n cp, cv = .slice A n cp := by
      obtain ⟨A, cp, e, -⟩ := hks
      exact ⟨A, _, cp, e⟩
    have hn0 : n0 = b.cache.length := by
      obtain ⟨A', cap', h1, -⟩ := hks
      injection h1
    have hl16 := hok.l
    have hI := indexF_any A0 n0 cp0 b.cache 63 #[ptr w.heap.size] (fun o => decide (o.at_ = i)) _ hks (by omega) enter63 (fun o W' hf' => read1k_any i o _ W' (HBox.out _ hf'))
    rcases first_ex (fun o : Kp => decide (o.at_ = i)) b.cache with hnone | ⟨j, k, hj, hpk, hno⟩
    · have hI2 := Lib.hid (hI.mono (R' := fun e w' => e = .returned (.int .i64 (-1)) ∧ Fr [] (w.alloc (.cells #[.int .i64 i] 3)) w') (fun e w' ⟨x, he, hx, hf⟩ => ⟨by rw [he, idx_none hx hnone], hf⟩))
      have E1 := Lib.hid (show b.readB d i = (if parseE (d.sec (b.first + i.toNat)) = 0 then b.miss.touch ⟨i, parseD (d.sec (b.first + i.toNat)), parseN (d.sec (b.first + i.toNat))⟩ else b.miss) by unfold Bv.readB; rw [if_neg (by omega), find_none hnone])
      have E2 := Lib.hid (show b.readV d i = ParseR (d.sec (b.first + i.toNat)) by unfold Bv.readV; rw [if_neg (by omega), find_none hnone])
      obtain ⟨hr1, hr2⟩ := H.out.readE ha
      have hsz := sec_size H.out.dd.ok (b.first + i.toNat)
      have hfi := hok.f
      have hcn := hok.c
      have HR := Lib.hid (fun W (h : Dvz z w0 W v p b.miss d) => (show Calls Try.prog 65 #[ptr p, .int .i64 ((b.first : Int) + i)] W fun e w' => e = .returned (.tuple #[.string (d.sec (b.first + i.toNat)), .int .i64 0]) ∧ Fr [] W w' from
        (h.dd.read ((b.first : Int) + i)).mono fun e w' ⟨he, hf⟩ => ⟨by rw [he, hr1, hr2], hf⟩))
      have HP := Lib.hid (fun W => Parse_any (d.sec (b.first + i.toNat)) W (by rw [hsz]; simp [maxLen]))
      have HM := Lib.hid (fun W (hf : Fr [] (w.alloc (.cells #[.int .i64 i] 3)) W) => (show Dvz z w0 (W.setCell ⟨v, 5, none⟩ (.int .i64 ((b.misses : Int) + 1))) v p b.miss d from Dvz.turn (H.out.to hf) ((Fr.refl _ _).setCell (.inl (by simp)) _) (H.out.to hf).dev.missed ⟨rfl, rfl⟩))
      have HV := Lib.hid (fun W (hf : Fr [] (w.alloc (.cells #[.int .i64 i] 3)) W) => (show W.cell? ⟨v, 5, none⟩ = some (.int .i64 b.misses) ∧ W.frozen? ⟨v, 5, none⟩ = false from ⟨hf.cell_some c5 (by simp), (H.out.to hf).dev.cells.choose_spec.1.fz 5⟩))
      have HW := Lib.hid (fun W (h : Dvz z w0 W v p b.miss d) => (show W.cell? ⟨v, 0, none⟩ = some (ptr p) ∧ W.cell? ⟨v, 1, none⟩ = some (.int .i64 b.first) from ⟨h.dev.cells.choose_spec.1.c0, h.dev.cells.choose_spec.1.c1⟩))
      have HT := Lib.hid (fun W (h : Dvz z w0 W v p b.miss d) (k : Kp) => touch_any v p b.miss k W h.dev)
      have hwm : IntKind.i64.wrap ((b.misses : Int) + 1) = (b.misses : Int) + 1 := IntWalk.i64_in _ (by omega)
      have hwi : IntKind.i64.wrap ((b.first : Int) + i) = (b.first : Int) + i := IntWalk.i64_in _ (by omega)
      generalize b.readV d i = RV at *
      generalize b.readB d i = RB at *
      generalize d.sec (b.first + i.toNat) = s at *
      clear hI hnone hks c0 c1 c2 c3 c5 fz hn0 hl16 hok hdead hi0 hic ha hm hbb hr1 hr2 hsz hfi hcn
      by_cases hpe : parseE s = 0
      · have E3 := Lib.hid (show ParseR s = .tuple #[.string (parseD s), .int .i64 (parseN s : Int), .int .i64 0] by unfold ParseR; rw [hpe])
        rw [if_pos hpe] at E1
        rw [E3.out] at E2 HP
        generalize parseD s = D at *
        generalize parseN s = NN at *
        clear E3 hpe
        go_enter Try.func24, Try.ntmps24
        generalize hWB : w.alloc (.cells #[.int .i64 i] 3) = WB at *
        go_wp2_with (first
          | (go_at_call 61; refine HA.out.mono ?_; rintro e w1 ⟨rfl, rfl⟩)
          | (go_at_call 62; refine hI2.out.mono ?_; rintro e w2 ⟨rfl, hf2⟩; obtain ⟨v5, f5⟩ := HV.out _ hf2; have HM2 := Lib.hid (HM.out _ hf2); have b2 := HBox.out _ hf2; have Hf2 := Lib.hid hf2; clear hf2))
        have hvl := Hvb.out
        have k1 : (w2.setCell ⟨v, 5, none⟩ (.int .i64 ((b.misses : Int) + 1))).cell? ⟨w.heap.size, 0, none⟩ = some (.int .i64 i) := ((Fr.refl [v] w2).setCell (.inl (by simp)) _).cell_some b2 (by simp; omega)
        obtain ⟨u0, u1⟩ := HW.out _ HM2.out
        have HMd := Lib.hid (HM2.out.to (Fr.refl [] _).drew)
        go_region_held3 (fun W => W.cell? ⟨w.heap.size, 0, none⟩ = some (.int .i64 i) ∧ W.cell? ⟨v, 0, none⟩ = some (ptr p) ∧ W.cell? ⟨v, 1, none⟩ = some (.int .i64 b.first)) (first | exact ⟨k1, u0, u1⟩ | exact kk | go_keep) (first
          | (go_at_call 65; refine (HR.out _ HMd.out).mono ?_; rintro e w3 ⟨rfl, hf3⟩; have hd3 := HMd.out.to hf3; have kk := (show _ ∧ _ ∧ _ from ⟨hf3.cell_some (show World.cell? (World.drew _) _ = _ from k1) (by simp), (HW.out _ hd3).1, (HW.out _ hd3).2⟩)))
        go_wp2_with (first
          | (go_at_call 17; refine (HP.out _).mono ?_; rintro e w4 ⟨rfl, hf4⟩; have b4 := hf4.cell_some kk.1 (by simp); have hd4 := hd3.to hf4)
          | (go_at_call 64; refine (HT.out _ hd4 ⟨i, D, NN⟩).mono ?_; rintro e w5 ⟨rfl, hd5, hf5⟩))
        go_ret3
        exact ⟨by rw [E2.out]; rfl, by rw [E1.out]; exact Dvz.turn hd4 hf5 hd5 ⟨rfl, rfl⟩⟩
      · have E3 := Lib.hid (parseR_bad (s := s) rfl hpe)
        rw [if_neg hpe] at E1
        rw [E3.out] at E2 HP
        generalize parseE s = pe at *
        clear E3
        go_enter Try.func24, Try.ntmps24
        generalize hWB : w.alloc (.cells #[.int .i64 i] 3) = WB at *
        go_wp2_with (first
          | (go_at_call 61; refine HA.out.mono ?_; rintro e w1 ⟨rfl, rfl⟩)
          | (go_at_call 62; refine hI2.out.mono ?_; rintro e w2 ⟨rfl, hf2⟩; obtain ⟨v5, f5⟩ := HV.out _ hf2; have HM2 := Lib.hid (HM.out _ hf2); have b2 := HBox.out _ hf2; have Hf2 := Lib.hid hf2; clear hf2))
        have hvl := Hvb.out
        have k1 : (w2.setCell ⟨v, 5, none⟩ (.int .i64 ((b.misses : Int) + 1))).cell? ⟨w.heap.size, 0, none⟩ = some (.int .i64 i) := ((Fr.refl [v] w2).setCell (.inl (by simp)) _).cell_some b2 (by simp; omega)
        obtain ⟨u0, u1⟩ := HW.out _ HM2.out
        have HMd := Lib.hid (HM2.out.to (Fr.refl [] _).drew)
        go_region_held3 (fun W => W.cell? ⟨w.heap.size, 0, none⟩ = some (.int .i64 i) ∧ W.cell? ⟨v, 0, none⟩ = some (ptr p) ∧ W.cell? ⟨v, 1, none⟩ = some (.int .i64 b.first)) (first | exact ⟨k1, u0, u1⟩ | exact kk | go_keep) (first
          | (go_at_call 65; refine (HR.out _ HMd.out).mono ?_; rintro e w3 ⟨rfl, hf3⟩; have hd3 := HMd.out.to hf3; have kk := (show _ ∧ _ ∧ _ from ⟨hf3.cell_some (show World.cell? (World.drew _) _ = _ from k1) (by simp), (HW.out _ hd3).1, (HW.out _ hd3).2⟩)))
        go_wp2_with (first
          | (go_at_call 17; refine (HP.out _).mono ?_; rintro e w4 ⟨rfl, hf4⟩; have hd4 := hd3.to hf4))
        go_ret3
        exact ⟨by rw [E2.out]; rfl, by rw [E1.out]; exact hd4⟩
    · have hI2 := Lib.hid (hI.mono (R' := fun e w' => e = .returned (.int .i64 (j : Int)) ∧ Fr [] (w.alloc (.cells #[.int .i64 i] 3)) w') (fun e w' ⟨x, he, hx, hf⟩ => ⟨by rw [he, idx_some hx hj hpk hno], hf⟩))
      have E1 := Lib.hid (show b.readB d i = b.touch k by unfold Bv.readB; rw [if_neg (by omega), find_some hj hpk hno])
      have E2 := Lib.hid (show b.readV d i = .tuple #[.string k.data, .int .i64 k.stamp, .int .i64 0] by unfold Bv.readV; rw [if_neg (by omega), find_some hj hpk hno])
      have HC := Lib.hid (fun W (hf : Fr [] (w.alloc (.cells #[.int .i64 i] 3)) W) => (hks.fr hf (NoK.nil _)).cell hj)
      obtain ⟨q, o, rfl, -, -⟩ := hks.cell hj
      have hjn : j < n0 := by rw [hn0]; exact (List.getElem?_eq_some_iff.1 hj).1
      have hj0 : (0 : Int) ≤ (j : Int) := by omega
      have hjn' : (j : Int) < (n0 : Int) := by omega
      have HV := Lib.hid (fun W (hf : Fr [] (w.alloc (.cells #[.int .i64 i] 3)) W) => (show W.cell? ⟨v, 4, none⟩ = some (.slice (some ⟨q, o, none⟩) n0 cp0) from hf.cell_some c4 (by simp)))
      have HT := Lib.hid (fun W (hf : Fr [] (w.alloc (.cells #[.int .i64 i] 3)) W) => touch_any v p b k W ((H.out.to hf).dev))
      generalize b.readV d i = RV at *
      generalize b.readB d i = RB at *
      clear hI hj hpk hno hks c0 c1 c2 c3 c5 fz hn0 hl16 hok hdead hi0 hic ha hm hbb
      go_enter Try.func24, Try.ntmps24
      generalize hWB : w.alloc (.cells #[.int .i64 i] 3) = WB at *
      go_wp2_with (first
        | (go_at_call 61; refine HA.out.mono ?_; rintro e w1 ⟨rfl, rfl⟩)
        | (go_at_call 62; refine hI2.out.mono ?_; rintro e w2 ⟨rfl, hf2⟩; have c4' := HV.out _ hf2; obtain ⟨q', o', hqo, -, d0, d1, d2⟩ := HC.out _ hf2; injection hqo with hqo; injection hqo with e1 e2 _; subst e1; subst e2; have Hf2 := Lib.hid hf2; clear hf2)
        | (go_at_call 64; refine (HT.out _ (Hf2.out.alloc _)).mono ?_; rintro e w3 ⟨rfl, hd3, hf3⟩; have hvl := ((H.out.to Hf2.out).dev.lt); have r1 := hf3.cell_some ((Blk.new w2 117 #[.int .i64 k.at_, .string k.data, .int .i64 k.stamp]).cell 1) (by simp; omega); have r2 := hf3.cell_some ((Blk.new w2 117 #[.int .i64 k.at_, .string k.data, .int .i64 k.stamp]).cell 2) (by simp; omega); simp at r1 r2; have Hfin := Lib.hid (Dvz.turn (H.out.to (Hf2.out.alloc _)) hf3 hd3 ⟨rfl, rfl⟩); clear hd3 hf3 hvl))
      go_quiet (fail)
      go_wp2_with fail
      go_ret3
      exact ⟨by rw [E2.out]; rfl, by rw [E1.out]; exact Hfin.out.to ((Fr.refl [] _).drewN _)⟩
  · have E1 := Lib.hid (show b.readB d i = b from if_pos ha)
    have E2 := Lib.hid (show b.readV d i = .tuple #[.string ⟨#[]⟩, .int .i64 0, .int .i64 (askedE b d i)] from if_pos ha)
    generalize b.readV d i = RV at *
    generalize b.readB d i = RB at *
    generalize askedE b d i = V at *
    clear hm hbb
    go_enter Try.func24, Try.ntmps24
    go_wp2_with (go_at_call 61; refine HA.out.mono ?_; rintro e w1 ⟨rfl, rfl⟩)
    go_ret3
    exact ⟨by rw [E2.out]; rfl, by rw [E1.out]; exact H.out⟩
section
variable {z : List Nat} {w0 w : World} {v p : Nat} {b : Bv} {d : Dk}
theorem Dvz.write (h : Dvz z w0 w v p b d) (i : Int) (t : ByteArray) (ht : t.size ≤ maxLen) : Calls Try.prog 30 #[ptr p, .int .i64 i, .string t] w fun e w' => e = .returned (.int .i64 (d.writeE i t)) ∧ Dvz z w0 w' v p b (d.writeS i t) := by
  obtain ⟨⟨f, g, m, ha, h1, h2, h3⟩, hv, hv0, hi⟩ := h
  exact (Write_any p g m d i t w ha ht).mono fun e w' ⟨he, hT⟩ => ⟨he, Dvz.disk f ha h1 h2 h3 hv hv0 (by rw [writeS_n]; exact hi) hT⟩
theorem Dvz.flush (h : Dvz z w0 w v p b d) (x y : Int) (hx : x ≤ 9223372036854775807) (hy : y ≤ 9223372036854775807) : Calls Try.prog 48 #[ptr p, .int .i64 x, .int .i64 y] w fun e w' => e = .returned (.int .i64 (d.flushE x y)) ∧ Dvz z w0 w' v p b (d.flushS x y) := by
  obtain ⟨⟨f, g, m, ha, h1, h2, h3⟩, hv, hv0, hi⟩ := h
  exact (Flush_any p g m d x y w ha hx hy).mono fun e w' ⟨he, hT⟩ => ⟨he, Dvz.disk f ha h1 h2 h3 hv hv0 (by rw [flushS_n]; exact hi) hT⟩
theorem Dvz.cells (h : Dvz z w0 w v p b d) : w.cell? ⟨v, 0, none⟩ = some (ptr p) ∧ w.cell? ⟨v, 1, none⟩ = some (.int .i64 b.first) ∧ w.cell? ⟨v, 2, none⟩ = some (.int .i64 b.count) :=
  ⟨h.dev.cells.choose_spec.1.c0, h.dev.cells.choose_spec.1.c1, h.dev.cells.choose_spec.1.c2⟩
set_option maxRecDepth 100000 in
theorem Barrier_z (h : Dvz z w0 w v p b d) : Calls Try.prog 26 #[ptr v] w fun e w' => e = .returned (.int .i64 (b.barrierE d)) ∧ Dvz z w0 w' v p b (b.barrierD d) := by
  have hD := Lib.hid h.dd.isDead
  have hf := h.dev.ok.f
  have hc := h.dev.ok.c
  have HF := Lib.hid (fun W (hh : Dvz z w0 W v p b d) => hh.flush b.first b.count (by omega) (by omega))
  have H := Lib.hid h
  obtain ⟨c0, c1, c2⟩ := h.cells
  cases hd : d.dead with
  | true =>
    have E1 := Lib.hid (show (2 : Int) = b.barrierE d by unfold Bv.barrierE; rw [hd]; rfl)
    have E2 := Lib.hid (show b.barrierD d = d by unfold Bv.barrierD; rw [hd]; rfl)
    rw [hd] at hD
    generalize b.barrierE d = V at *
    generalize b.barrierD d = DD at *
    clear h c1 c2 hf hc
    go_enter Try.func26, Try.ntmps26
    go_wp2_with (go_at_call 66; refine hD.out.mono ?_; rintro e w1 ⟨rfl, rfl⟩)
    go_ret
    exact ⟨ret_int E1.out, by rw [E2.out]; exact H.out⟩
  | false =>
    have E1 := Lib.hid (show d.flushE b.first b.count = b.barrierE d by unfold Bv.barrierE; rw [hd]; rfl)
    have E2 := Lib.hid (show b.barrierD d = d.flushS b.first b.count by unfold Bv.barrierD; rw [hd]; rfl)
    rw [hd] at hD
    generalize b.barrierE d = V at *
    generalize b.barrierD d = DD at *
    generalize d.flushE b.first b.count = VF at *
    generalize d.flushS b.first b.count = DF at *
    clear h hf hc
    go_enter Try.func26, Try.ntmps26
    go_wp2_with (go_at_call 66; refine hD.out.mono ?_; rintro e w1 ⟨rfl, rfl⟩)
    have Hdr := Lib.hid (H.out.to (Fr.refl _ _).drew)
    go_region_held3 (fun W => W.cell? ⟨v, 0, none⟩ = some (ptr p) ∧ W.cell? ⟨v, 1, none⟩ = some (.int .i64 b.first) ∧ W.cell? ⟨v, 2, none⟩ = some (.int .i64 b.count)) (first | exact ⟨c0, c1, c2⟩ | exact kk | go_keep) (first
      | (go_at_call 48; refine (HF.out _ Hdr.out).mono ?_; rintro e w4 ⟨rfl, hT⟩; have kk := hT.cells))
    go_wp2_with fail
    go_ret
    exact ⟨ret_int E1.out, by rw [E2.out]; exact hT⟩
end
section
variable {z : List Nat} {w0 w : World} {v p : Nat} {b : Bv} {d : Dk}
set_option maxRecDepth 100000 in
theorem WriteB_z (h : Dvz z w0 w v p b d) (i : Int) (t : ByteArray) (n : Int) (ht : t.size ≤ maxLen) : Calls Try.prog 25 #[ptr v, .int .i64 i, .string t, .int .i64 n] w fun e w' => e = .returned (.int .i64 (b.writeE d i t n)) ∧ Dvz z w0 w' v p (b.writeB d i t n) (b.writeD d i t n) := by
  have HA := Lib.hid (asked_z h i)
  have HB := Lib.hid (fun W => Bytes_any t n W ht)
  have H := Lib.hid h
  by_cases ha : askedE b d i = 0
  · rw [ha] at HA
    by_cases hb : bytesE t n = 0
    · obtain ⟨hdead, hi0, hic⟩ := askedE_ok ha
      have hfi := h.dev.ok.f
      have hcn := h.dev.ok.c
      have hsz := bytesV_ok hb
      have hwi : IntKind.i64.wrap ((b.first : Int) + i) = (b.first : Int) + i := IntWalk.i64_in _ (by omega)
      have HW := Lib.hid (fun W (hh : Dvz z w0 W v p b d) => hh.write ((b.first : Int) + i) (bytesV t n) (by rw [hsz]; simp [maxLen]))
      have E1 := Lib.hid (show d.writeE ((b.first : Int) + i) (bytesV t n) = b.writeE d i t n by unfold Bv.writeE; rw [if_neg (by omega), if_neg (by omega)])
      have E2 := Lib.hid (show b.writeD d i t n = d.writeS ((b.first : Int) + i) (bytesV t n) by unfold Bv.writeD; rw [if_neg (by omega), if_neg (by omega)])
      have E3 := Lib.hid (show b.writeB d i t n = if b.writeE d i t n ≠ 0 then b else b.touch ⟨i, (bytesV t n).extract 0 116, n⟩ from rfl)
      rw [hb] at HB
      have hsl := fun wx => sl_h (bytesV t n) 116 (116 : Int) rfl wx (by omega)
      have HC := Lib.hid (fun W (hf : Fr [] w W) => (show W.cell? ⟨v, 0, none⟩ = some (ptr p) ∧ W.cell? ⟨v, 1, none⟩ = some (.int .i64 b.first) from ⟨(h.to hf).cells.1, (h.to hf).cells.2.1⟩))
      have HT := Lib.hid (fun W d' (hh : Dvz z w0 W v p b d') (k : Kp) => touch_any v p b k W hh.dev)
      generalize (bytesV t n).extract 0 116 = X at *
      generalize b.writeD d i t n = WD at *
      generalize d.writeS ((b.first : Int) + i) (bytesV t n) = WS at *
      generalize b.writeB d i t n = WB at *
      generalize bytesV t n = s at *
      by_cases he : b.writeE d i t n = 0
      · rw [he] at E1
        rw [if_neg (by omega)] at E3
        rw [he]
        rw [E1.out] at HW
        clear h ha hb hdead hi0 hic hfi hcn hsz he
        go_enter Try.func25, Try.ntmps25
        go_wp2_with (first
          | (go_at_call 61; refine HA.out.mono ?_; rintro e w1 ⟨rfl, rfl⟩)
          | (go_at_call 15; refine (HB.out _).mono ?_; rintro e w2 ⟨rfl, hf2⟩; obtain ⟨c0, c1⟩ := HC.out _ hf2; have hd2 := H.out.to hf2))
        have Hdr := Lib.hid (hd2.to (Fr.refl _ _).drew)
        go_region_held3 (fun W => W.cell? ⟨v, 0, none⟩ = some (ptr p) ∧ W.cell? ⟨v, 1, none⟩ = some (.int .i64 b.first)) (first | exact ⟨c0, c1⟩ | exact kk | go_keep) (first
          | (go_at_call 30; refine (HW.out _ Hdr.out).mono ?_; rintro e w4 ⟨rfl, hT⟩; have kk := (show _ ∧ _ from ⟨hT.cells.1, hT.cells.2.1⟩)))
        go_wp2_with (go_at_call 64; refine (HT.out _ _ hT ⟨i, X, n⟩).mono ?_; rintro e w5 ⟨rfl, hd5, hf5⟩)
        go_ret
        exact ⟨rfl, by rw [E2.out, E3.out]; exact Dvz.turn hT hf5 hd5 ⟨rfl, rfl⟩⟩
      · rw [if_pos he] at E3
        generalize b.writeE d i t n = V at *
        rw [E1.out] at HW
        clear h ha hb hdead hi0 hic hfi hcn hsz
        go_enter Try.func25, Try.ntmps25
        go_wp2_with (first
          | (go_at_call 61; refine HA.out.mono ?_; rintro e w1 ⟨rfl, rfl⟩)
          | (go_at_call 15; refine (HB.out _).mono ?_; rintro e w2 ⟨rfl, hf2⟩; obtain ⟨c0, c1⟩ := HC.out _ hf2; have hd2 := H.out.to hf2))
        have Hdr := Lib.hid (hd2.to (Fr.refl _ _).drew)
        go_region_held3 (fun W => W.cell? ⟨v, 0, none⟩ = some (ptr p) ∧ W.cell? ⟨v, 1, none⟩ = some (.int .i64 b.first)) (first | exact ⟨c0, c1⟩ | exact kk | go_keep) (first
          | (go_at_call 30; refine (HW.out _ Hdr.out).mono ?_; rintro e w4 ⟨rfl, hT⟩; have kk := (show _ ∧ _ from ⟨hT.cells.1, hT.cells.2.1⟩)))
        go_wp2_with fail
        go_ret
        exact ⟨rfl, by rw [E2.out, E3.out]; exact hT⟩
    · have E1 := Lib.hid (show bytesE t n = b.writeE d i t n by unfold Bv.writeE; rw [if_neg (by omega), if_pos hb])
      have E2 := Lib.hid (show b.writeD d i t n = d by unfold Bv.writeD; rw [if_neg (by omega), if_pos hb])
      have E3 := Lib.hid (show b.writeB d i t n = b by unfold Bv.writeB; rw [← E1.out, if_pos hb])
      generalize b.writeD d i t n = WD at *
      generalize b.writeB d i t n = WB at *
      generalize b.writeE d i t n = V at *
      generalize bytesE t n = VB at *
      generalize bytesV t n = s at *
      clear h ha
      go_enter Try.func25, Try.ntmps25
      go_wp2_with (first
        | (go_at_call 61; refine HA.out.mono ?_; rintro e w1 ⟨rfl, rfl⟩)
        | (go_at_call 15; refine (HB.out _).mono ?_; rintro e w2 ⟨rfl, hf2⟩))
      go_ret
      exact ⟨ret_int E1.out, by rw [E2.out, E3.out]; exact H.out.to hf2⟩
  · have E1 := Lib.hid (show askedE b d i = b.writeE d i t n by unfold Bv.writeE; rw [if_pos ha])
    have E2 := Lib.hid (show b.writeD d i t n = d by unfold Bv.writeD; rw [if_pos ha])
    have E3 := Lib.hid (show b.writeB d i t n = b by unfold Bv.writeB; rw [← E1.out, if_pos ha])
    generalize b.writeD d i t n = WD at *
    generalize b.writeB d i t n = WB at *
    generalize b.writeE d i t n = V at *
    generalize askedE b d i = VA at *
    clear h
    go_enter Try.func25, Try.ntmps25
    go_wp2_with (go_at_call 61; refine HA.out.mono ?_; rintro e w1 ⟨rfl, rfl⟩)
    go_ret
    exact ⟨ret_int E1.out, by rw [E2.out, E3.out]; exact H.out⟩
end
end Go.Proofs.Ythmnloapjdalpaa

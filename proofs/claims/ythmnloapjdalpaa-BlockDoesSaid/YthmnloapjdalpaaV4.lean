/- The reference's extent: Read, Write, Barrier. The reference's extent: Write, Barrier. -/
import Derived.Test.YthmnloapjdalpaaV2
import Derived.Test.YthmnloapjdalpaaL21
namespace Go.Proofs.Ythmnloapjdalpaa
open Go.RowKit
set_option linter.unusedVariables false
set_option linter.unusedSimpArgs false
theorem Rvd.touch {w W : World} {y q : Nat} {b : Bv} {d : Dk} (hT : RvT y q w b d W) (k : Kp) : Calls Try.prog 106 #[ptr y, .int .i64 k.at_] W fun e w' => e = .returned (.tuple #[]) ∧ RvT y q w (b.touch k) d w' :=
  (rTouch_any y q b k W hT.1.rv).mono fun e w' ⟨he, hv, hf⟩ => ⟨he, hT.trans (hT.1.turny hv ⟨rfl, rfl⟩ hf)⟩
theorem Rvd.missed {w : World} {y q : Nat} {b : Bv} {d : Dk} (h : Rvd w y q b d) : RvT y q w b.miss d (w.setCell ⟨y, 5, none⟩ (.int .i64 ((b.misses : Int) + 1))) ∧ w.cell? ⟨y, 5, none⟩ = some (.int .i64 b.misses) ∧ w.frozen? ⟨y, 5, none⟩ = false := by
  obtain ⟨A, cap, hb, hz⟩ := h.rv.form
  have hf : Fr [y] w (w.setCell ⟨y, 5, none⟩ (.int .i64 ((b.misses : Int) + 1))) := (Fr.refl [y] w).setCell (p := ⟨y, 5, none⟩) (.inl (by simp)) _
  refine ⟨h.turny ⟨h.rv.ok.miss, _, hb.set_ 5 _, hz.fr hf (hb.noZ (by decide))⟩ ⟨rfl, rfl⟩ hf, hb.cell 5, hb.frozen 5⟩
set_option maxRecDepth 100000 in
set_option maxHeartbeats 1000000 in
theorem rRead15_any (y q : Nat) (b : Bv) (d : Dk) (i : Int) (w : World) (h : Rvd w y q b d) (hco : d.dead = false → Coh b d) (hm : b.misses < 9223372036854775807) : Calls Try.prog 77 #[ptr y, .int .i64 i] w fun e w' => e = .returned (b.readV d i) ∧ RvT y q w (b.readB d i) d w' := by
  have HA := Lib.hid (rAsked_any y q b d i w h)
  by_cases ha : askedE b d i = 0
  · have hsz := sec_size h.rd.ok (b.first + i.toNat)
    have hwi := h.wrapE ha
    obtain ⟨c0, c1, c2⟩ := h.cells
    have HCa := Lib.hid (rCached_any y q b i w h.rv)
    have E1 : b.readV d i = match b.find i with
      | some k => .tuple #[.string k.data, .int .i64 k.stamp, .int .i64 0]
      | none => ParseR (d.sec (b.first + i.toNat)) := by unfold Bv.readV; rw [if_neg (by omega)]; cases b.find i <;> rfl
    have E2 : b.readB d i = match b.find i with
      | some k => b.touch k
      | none => if parseE (d.sec (b.first + i.toNat)) = 0 then b.miss.touch ⟨i, parseD (d.sec (b.first + i.toNat)), parseN (d.sec (b.first + i.toNat))⟩ else b.miss := by unfold Bv.readB; rw [if_neg (by omega)]; cases b.find i <;> rfl
    rw [E1, E2]
    clear E1 E2
    have hP := Lib.hid (fun W => rParse_any (d.sec (b.first + i.toNat)) W (by rw [hsz]; simp [maxLen]))
    have HA0 := HA
    rw [ha] at HA
    cases hk : b.find i with
    | some k =>
      obtain ⟨hk1, hk2⟩ := find_mem hk
      obtain ⟨-, -, hk3⟩ := hco (askedE_ok ha).1 k hk1
      rw [hk2] at hk3
      rw [hk3] at hP
      rw [hk] at HCa
      have HR := Lib.hid ((h.to (Fr.refl [] w).drew).sec ha)
      have HT := Lib.hid (fun W (hf : Fr [] w W) => (show Calls Try.prog 106 #[ptr y, .int .i64 i] W fun e w' => e = .returned (.tuple #[]) ∧ RvT y q w (b.touch k) d w' from by rw [← hk2]; exact Rvd.touch ((RvT.refl h).to hf) k))
      simp only []
      clear h ha hco hm hk hk1 hk2 hk3 HA0
      generalize d.sec (b.first + i.toNat) = s at *
      generalize b.first = f at *
      generalize b.touch k = b' at *
      obtain ⟨ka, kd, ks⟩ := k
      simp only at hP ⊢
      go_enter Try.func77, Try.ntmps77
      go_wp2_with (first
        | (go_at_call 104; refine HA.out.mono ?_; rintro e w1 ⟨rfl, rfl⟩)
        | (go_at_call 105; refine HCa.out.mono ?_; rintro e w1 ⟨rfl, rfl⟩))
      go_region_held3 (fun W => W.cell? ⟨y, 0, none⟩ = some (ptr q) ∧ W.cell? ⟨y, 1, none⟩ = some (.int .i64 f)) (first | exact ⟨c0, c1⟩) (first
        | (go_at_call 94; refine HR.out.mono ?_; rintro e w3 ⟨rfl, rfl⟩))
      go_wp2_with (first
        | (go_at_call 18; refine (hP.out _).mono ?_; rintro e w4 ⟨rfl, hf4⟩; have HT4 := Lib.hid (HT.out _ ((Fr.refl [] _).drew.trans hf4)); clear hf4)
        | (go_at_call 106; refine HT4.out.mono ?_; rintro e w5 ⟨rfl, hT5⟩))
      go_ret3
      exact ⟨rfl, hT5⟩
    | none =>
      rw [hk] at HCa
      obtain ⟨hT1, c5, f5⟩ := h.missed
      have hw5 : IntKind.i64.wrap ((b.misses : Int) + 1) = (b.misses : Int) + 1 := IntWalk.i64_in _ (by omega)
      have d0 := ((Fr.refl [y] w).setCell (p := ⟨y, 5, none⟩) (.inl (by simp)) (.int .i64 ((b.misses : Int) + 1)))
      have hd := hT1.1.cells
      obtain ⟨x0, x1, x2⟩ := hd
      have hHR : Calls Try.prog 94 #[ptr q, .int .i64 ((b.first : Int) + i)] (w.setCell ⟨y, 5, none⟩ (.int .i64 ((b.misses : Int) + 1))).drew fun e w' => e = .returned (.tuple #[.string (d.sec (b.first + i.toNat)), .int .i64 0]) ∧ (w.setCell ⟨y, 5, none⟩ (.int .i64 ((b.misses : Int) + 1))).drew = w' := Rvd.sec (b := b.miss) (hT1.1.to (Fr.refl [] _).drew) ha
      have HR := Lib.hid hHR
      have HT1 := Lib.hid hT1
      clear hHR d0 x2
      by_cases hp : parseE (d.sec (b.first + i.toNat)) = 0
      · have EP : ParseR (d.sec (b.first + i.toNat)) = .tuple #[.string (parseD (d.sec (b.first + i.toNat))), .int .i64 (parseN (d.sec (b.first + i.toNat)) : Int), .int .i64 0] := by unfold ParseR; rw [hp]
        simp only []
        rw [if_pos hp, EP]
        rw [EP] at hP
        generalize parseD (d.sec (b.first + i.toNat)) = PD at *
        generalize parseN (d.sec (b.first + i.toNat)) = PN at *
        have HT := Lib.hid (fun W (hT : RvT y q w b.miss d W) => (show Calls Try.prog 106 #[ptr y, .int .i64 i] W fun e w' => e = .returned (.tuple #[]) ∧ RvT y q w (b.miss.touch ⟨i, PD, PN⟩) d w' from Rvd.touch hT ⟨i, PD, PN⟩))
        change (w.setCell ⟨y, 5, none⟩ (.int .i64 ((b.misses : Int) + 1))).cell? ⟨y, 1, none⟩ = some (.int .i64 b.first) at x1
        clear h ha hco hm hk HA0 hT1 hp EP hsz
        generalize d.sec (b.first + i.toNat) = s at *
        generalize b.first = f at *
        generalize b.miss.touch ⟨i, PD, PN⟩ = b' at *
        generalize b.miss = bm at *
        generalize b.misses = ms at *
        go_enter Try.func77, Try.ntmps77
        go_wp2_with (first
          | (go_at_call 104; refine HA.out.mono ?_; rintro e w1 ⟨rfl, rfl⟩)
          | (go_at_call 105; refine HCa.out.mono ?_; rintro e w1 ⟨rfl, rfl⟩))
        go_region_held3 (fun W => W.cell? ⟨y, 0, none⟩ = some (ptr q) ∧ W.cell? ⟨y, 1, none⟩ = some (.int .i64 f)) (first | exact ⟨x0, x1⟩) (first
          | (go_at_call 94; refine HR.out.mono ?_; rintro e w3 ⟨rfl, rfl⟩))
        go_wp2_with (first
          | (go_at_call 18; refine (hP.out _).mono ?_; rintro e w4 ⟨rfl, hf4⟩; have HT4 := Lib.hid (HT.out _ (HT1.out.to ((Fr.refl [] _).drew.trans hf4))); clear hf4)
          | (go_at_call 106; refine HT4.out.mono ?_; rintro e w5 ⟨rfl, hT5⟩))
        go_ret3
        exact ⟨rfl, hT5⟩
      · have EP : ParseR (d.sec (b.first + i.toNat)) = .tuple #[.string ⟨#[]⟩, .int .i64 0, .int .i64 (parseE (d.sec (b.first + i.toNat)))] := parseR_bad rfl hp
        simp only []
        rw [if_neg hp, EP]
        rw [EP] at hP
        generalize parseE (d.sec (b.first + i.toNat)) = PE at *
        change (w.setCell ⟨y, 5, none⟩ (.int .i64 ((b.misses : Int) + 1))).cell? ⟨y, 1, none⟩ = some (.int .i64 b.first) at x1
        clear h ha hco hm hk HA0 hT1 EP hsz
        generalize d.sec (b.first + i.toNat) = s at *
        generalize b.first = f at *
        generalize b.miss = bm at *
        generalize b.misses = ms at *
        go_enter Try.func77, Try.ntmps77
        go_wp2_with (first
          | (go_at_call 104; refine HA.out.mono ?_; rintro e w1 ⟨rfl, rfl⟩)
          | (go_at_call 105; refine HCa.out.mono ?_; rintro e w1 ⟨rfl, rfl⟩))
        go_region_held3 (fun W => W.cell? ⟨y, 0, none⟩ = some (ptr q) ∧ W.cell? ⟨y, 1, none⟩ = some (.int .i64 f)) (first | exact ⟨x0, x1⟩) (first
          | (go_at_call 94; refine HR.out.mono ?_; rintro e w3 ⟨rfl, rfl⟩))
        go_wp2_with (first
          | (go_at_call 18; refine (hP.out _).mono ?_; rintro e w4 ⟨rfl, hf4⟩; have HT4 := Lib.hid (HT1.out.to ((Fr.refl [] _).drew.trans hf4)); clear hf4))
        go_ret3
        exact ⟨rfl, HT4.out⟩
  · have E1 := Lib.hid (show b.readV d i = .tuple #[.string ⟨#[]⟩, .int .i64 0, .int .i64 (askedE b d i)] from if_pos ha)
    have E2 := Lib.hid (show b.readB d i = b from if_pos ha)
    rw [E1.out, E2.out]
    have HT := Lib.hid (RvT.refl h)
    generalize askedE b d i = V at *
    clear h E1 E2 hco hm
    go_enter Try.func77, Try.ntmps77
    go_wp2_with (go_at_call 104; refine HA.out.mono ?_; rintro e w1 ⟨rfl, rfl⟩)
    go_ret3
    exact ⟨rfl, HT.out⟩
end Go.Proofs.Ythmnloapjdalpaa
namespace Go.Proofs.Ythmnloapjdalpaa
open Go.RowKit
set_option linter.unusedVariables false
set_option linter.unusedSimpArgs false
theorem barrier_eq (b : Bv) (d : Dk) : b.barrierE d = d.flushE b.first b.count ∧ b.barrierD d = d.flushS b.first b.count := by
  unfold Bv.barrierE Bv.barrierD
  cases hd : d.dead with
  | false => exact ⟨rfl, rfl⟩
  | true =>
    obtain ⟨h1, h2⟩ := fl_bad (d := d) (a := (b.first : Int)) (b := (b.count : Int)) (v := 2) (by unfold Dk.flushE0; rw [hd]; rfl) (by decide)
    rw [h1, h2]
    exact ⟨rfl, rfl⟩
set_option maxRecDepth 100000 in
theorem rBarrier_any (y q : Nat) (b : Bv) (d : Dk) (w : World) (h : Rvd w y q b d) : Calls Try.prog 80 #[ptr y] w fun e w' => e = .returned (.int .i64 (b.barrierE d)) ∧ RvT y q w b (b.barrierD d) w' := by
  obtain ⟨e1, e2⟩ := barrier_eq b d
  rw [e1, e2]
  obtain ⟨c0, c1, c2⟩ := h.cells
  have hf := h.rv.ok.f
  have hc := h.rv.ok.c
  have HF := Lib.hid ((rFlush_any q d b.first b.count w.drew (h.to (Fr.refl [] w).drew).rd (by omega) (by omega)).mono (R' := fun e w' => e = .returned (.int .i64 (d.flushE b.first b.count)) ∧ RvT y q w b (d.flushS b.first b.count) w') (fun e w' ⟨he, ht⟩ => ⟨he, ((RvT.refl h).to (Fr.refl [] w).drew).trans ((h.to (Fr.refl [] w).drew).turnq ht (flushS_n _ _ _))⟩))
  clear h e1 e2 hf hc
  generalize d.flushE b.first b.count = E at *
  generalize d.flushS b.first b.count = D at *
  generalize hb1 : b.first = f at *
  generalize hb2 : b.count = c at *
  have HB1 := Lib.hid hb1
  have HB2 := Lib.hid hb2
  clear hb1 hb2
  go_enter Try.func80, Try.ntmps80
  go_wp2_with fail
  go_region_held3 (fun W => W.cell? ⟨y, 0, none⟩ = some (ptr q) ∧ W.cell? ⟨y, 1, none⟩ = some (.int .i64 f) ∧ W.cell? ⟨y, 2, none⟩ = some (.int .i64 c)) (first | exact ⟨c0, c1, c2⟩ | exact kk) (first
    | (go_at_call 96; refine HF.out.mono ?_; rintro e w3 ⟨rfl, hT⟩; have kk := hT.1.cells; rw [HB1.out, HB2.out] at kk))
  go_wp2_with fail
  go_ret
  exact ⟨rfl, hT⟩
set_option maxRecDepth 100000 in
set_option maxHeartbeats 1000000 in
theorem rWrite15_any (y q : Nat) (b : Bv) (d : Dk) (i : Int) (t : ByteArray) (n : Int) (w : World) (h : Rvd w y q b d) (ht : t.size ≤ maxLen) : Calls Try.prog 79 #[ptr y, .int .i64 i, .string t, .int .i64 n] w fun e w' => e = .returned (.int .i64 (b.writeE d i t n)) ∧ RvT y q w (b.writeB d i t n) (b.writeD d i t n) w' := by
  have HA := Lib.hid (rAsked_any y q b d i w h)
  by_cases ha : askedE b d i = 0
  · have hwi := h.wrapE ha
    have HB := Lib.hid (fun W => rBytes_any t n W ht)
    rw [ha] at HA
    by_cases hb0 : bytesE t n = 0
    · have E1 : b.writeE d i t n = d.writeE ((b.first : Int) + i) (bytesV t n) := by unfold Bv.writeE; rw [if_neg (by omega), if_neg (by omega)]
      have E2 : b.writeD d i t n = d.writeS ((b.first : Int) + i) (bytesV t n) := by unfold Bv.writeD; rw [if_neg (by omega), if_neg (by omega)]
      have E3 : b.writeB d i t n = if d.writeE ((b.first : Int) + i) (bytesV t n) ≠ 0 then b else b.touch ⟨i, (bytesV t n).extract 0 116, n⟩ := by unfold Bv.writeB; rw [E1]
      rw [E1, E2, E3]
      rw [hb0] at HB
      obtain ⟨c0, c1, c2⟩ := h.cells
      have HC := Lib.hid (fun W (hf : Fr [] w W) => (show W.cell? ⟨y, 0, none⟩ = some (ptr q) ∧ W.cell? ⟨y, 1, none⟩ = some (.int .i64 b.first) from ⟨(h.to hf).cells.1, (h.to hf).cells.2.1⟩))
      have HC2 := Lib.hid (fun W D (hT : RvT y q w b D W) => (show W.cell? ⟨y, 0, none⟩ = some (ptr q) ∧ W.cell? ⟨y, 1, none⟩ = some (.int .i64 b.first) from ⟨hT.1.cells.1, hT.1.cells.2.1⟩))
      have HW := Lib.hid (fun W (hf : Fr [] w W) => (rWrite_any q d ((b.first : Int) + i) (bytesV t n) W (h.to hf).rd).mono (R' := fun e w' => e = .returned (.int .i64 (d.writeE ((b.first : Int) + i) (bytesV t n))) ∧ RvT y q w b (d.writeS ((b.first : Int) + i) (bytesV t n)) w') (fun e w' ⟨he, ht⟩ => ⟨he, ((RvT.refl h).to hf).trans ((h.to hf).turnq ht (writeS_n _ _ _))⟩))
      have HT := Lib.hid (fun W D (hT : RvT y q w b D W) => (show Calls Try.prog 106 #[ptr y, .int .i64 i] W fun e w' => e = .returned (.tuple #[]) ∧ RvT y q w (b.touch ⟨i, (bytesV t n).extract 0 116, n⟩) D w' from Rvd.touch hT ⟨i, (bytesV t n).extract 0 116, n⟩))
      clear h ha hb0 E1 E2 E3 ht
      generalize d.writeE ((b.first : Int) + i) (bytesV t n) = E at *
      generalize d.writeS ((b.first : Int) + i) (bytesV t n) = D at *
      generalize b.touch ⟨i, (bytesV t n).extract 0 116, n⟩ = b' at *
      generalize bytesV t n = S at *
      generalize b.first = f at *
      by_cases hE : E = 0
      · rw [if_neg (by omega)]
        subst hE
        go_enter Try.func79, Try.ntmps79
        go_wp2_with (first
          | (go_at_call 104; refine HA.out.mono ?_; rintro e w1 ⟨rfl, rfl⟩)
          | (go_at_call 16; refine (HB.out _).mono ?_; rintro e w2 ⟨rfl, hf2⟩; have k0 := HC.out _ hf2.drew; obtain ⟨z0, z1⟩ := HC.out _ hf2; have HWx := Lib.hid (HW.out _ hf2.drew); clear hf2))
        go_region_held3 (fun W => W.cell? ⟨y, 0, none⟩ = some (ptr q) ∧ W.cell? ⟨y, 1, none⟩ = some (.int .i64 f)) (first | exact kk | exact k0) (first
          | (go_at_call 95; refine HWx.out.mono ?_; rintro e w3 ⟨rfl, hT⟩; have kk := HC2.out _ _ hT; have HTx := Lib.hid (HT.out _ _ hT); clear hT))
        go_wp2_with (go_at_call 106; refine HTx.out.mono ?_; rintro e w5 ⟨rfl, hT5⟩)
        go_ret
        exact ⟨rfl, hT5⟩
      · rw [if_pos hE]
        go_enter Try.func79, Try.ntmps79
        go_wp2_with (first
          | (go_at_call 104; refine HA.out.mono ?_; rintro e w1 ⟨rfl, rfl⟩)
          | (go_at_call 16; refine (HB.out _).mono ?_; rintro e w2 ⟨rfl, hf2⟩; have k0 := HC.out _ hf2.drew; obtain ⟨z0, z1⟩ := HC.out _ hf2; have HWx := Lib.hid (HW.out _ hf2.drew); clear hf2))
        go_region_held3 (fun W => W.cell? ⟨y, 0, none⟩ = some (ptr q) ∧ W.cell? ⟨y, 1, none⟩ = some (.int .i64 f)) (first | exact kk | exact k0) (first
          | (go_at_call 95; refine HWx.out.mono ?_; rintro e w3 ⟨rfl, hT⟩; have kk := HC2.out _ _ hT; have HTx := Lib.hid hT; clear hT))
        go_wp2_with fail
        go_ret
        exact ⟨rfl, HTx.out⟩
    · have E1 : b.writeE d i t n = bytesE t n := by unfold Bv.writeE; rw [if_neg (by omega), if_pos hb0]
      have E2 : b.writeD d i t n = d := by unfold Bv.writeD; rw [if_neg (by omega), if_pos hb0]
      have E3 : b.writeB d i t n = b := by unfold Bv.writeB; rw [E1, if_pos hb0]
      rw [E1, E2, E3]
      have HT := Lib.hid (fun W (hf : Fr [] w W) => (RvT.refl h).to hf)
      clear h ha E1 E2 E3 ht
      generalize bytesV t n = S at *
      generalize bytesE t n = E at *
      go_enter Try.func79, Try.ntmps79
      go_wp2_with (first
        | (go_at_call 104; refine HA.out.mono ?_; rintro e w1 ⟨rfl, rfl⟩)
        | (go_at_call 16; refine (HB.out _).mono ?_; rintro e w2 ⟨rfl, hf2⟩; have HTx := Lib.hid (HT.out _ hf2); clear hf2))
      go_ret
      exact ⟨rfl, HTx.out⟩
  · have E1 : b.writeE d i t n = askedE b d i := by unfold Bv.writeE; rw [if_pos ha]
    have E2 : b.writeD d i t n = d := by unfold Bv.writeD; rw [if_pos ha]
    have E3 : b.writeB d i t n = b := by unfold Bv.writeB; rw [E1, if_pos ha]
    rw [E1, E2, E3]
    have HT := Lib.hid (RvT.refl h)
    clear h E1 E2 E3 ht
    generalize askedE b d i = V at *
    go_enter Try.func79, Try.ntmps79
    go_wp2_with (go_at_call 104; refine HA.out.mono ?_; rintro e w1 ⟨rfl, rfl⟩)
    go_ret
    exact ⟨rfl, HT.out⟩
end Go.Proofs.Ythmnloapjdalpaa

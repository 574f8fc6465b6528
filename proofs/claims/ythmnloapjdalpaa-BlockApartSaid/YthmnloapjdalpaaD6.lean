/- An extent's Stamp, Write, Barrier. -/
import Derived.Test.YthmnloapjdalpaaD5
namespace Go.Proofs.Ythmnloapjdalpaa
open Go.RowKit
set_option linter.unusedVariables false
set_option linter.unusedSimpArgs false
def Bv.stampV (b : Bv) (d : Dk) (i : Int) : Value :=
  if askedE b d i ≠ 0 then .tuple #[.int .i64 0, .int .i64 (askedE b d i)] else
  if stampedE (d.sec (b.first + i.toNat)) = false then .tuple #[.int .i64 0, .int .i64 153] else .tuple #[.int .i64 (stampOf (d.sec (b.first + i.toNat)) : Int), .int .i64 0]
def Bv.writeE (b : Bv) (d : Dk) (i : Int) (t : ByteArray) (n : Int) : Int :=
  if askedE b d i ≠ 0 then askedE b d i else if bytesE t n ≠ 0 then bytesE t n else d.writeE ((b.first : Int) + i) (bytesV t n)
def Bv.writeD (b : Bv) (d : Dk) (i : Int) (t : ByteArray) (n : Int) : Dk :=
  if askedE b d i ≠ 0 then d else if bytesE t n ≠ 0 then d else d.writeS ((b.first : Int) + i) (bytesV t n)
def Bv.writeB (b : Bv) (d : Dk) (i : Int) (t : ByteArray) (n : Int) : Bv :=
  if b.writeE d i t n ≠ 0 then b else b.touch ⟨i, (bytesV t n).extract 0 116, n⟩
def Bv.barrierE (b : Bv) (d : Dk) : Int := if d.dead then 2 else d.flushE b.first b.count
def Bv.barrierD (b : Bv) (d : Dk) : Dk := if d.dead then d else d.flushS b.first b.count
theorem writeS_n (d : Dk) (i : Int) (t : ByteArray) : (d.writeS i t).n = d.n := by
  unfold Dk.writeS
  split
  · split
    · show ((d.put i.toNat t).tick).n = d.n
      unfold Dk.tick
      split <;> rfl
    · unfold Dk.tick
      split <;> rfl
  · rfl
theorem flushS_n (d : Dk) (a b : Int) : (d.flushS a b).n = d.n := by
  unfold Dk.flushS
  split
  · split
    · show (d.tick).n = d.n
      unfold Dk.tick
      split <;> rfl
    · show (d.tick).n = d.n
      unfold Dk.tick
      split <;> rfl
  · rfl
section
variable {w0 w : World} {v p : Nat} {b : Bv} {d : Dk}
theorem Dv.write (h : Dv w0 w v p b d) (i : Int) (t : ByteArray) (ht : t.size ≤ maxLen) : Calls Try.prog 30 #[ptr p, .int .i64 i, .string t] w fun e w' => e = .returned (.int .i64 (d.writeE i t)) ∧ Dv w0 w' v p b (d.writeS i t) := by
  obtain ⟨⟨f, g, m, ha, h1, h2, h3⟩, hv, hv0, hi⟩ := h
  exact (Write_any p g m d i t w ha ht).mono fun e w' ⟨he, hT⟩ => ⟨he, Dv.disk f ha h1 h2 h3 hv hv0 (by rw [writeS_n]; exact hi) hT⟩
theorem Dv.flush (h : Dv w0 w v p b d) (x y : Int) (hx : x ≤ 9223372036854775807) (hy : y ≤ 9223372036854775807) : Calls Try.prog 48 #[ptr p, .int .i64 x, .int .i64 y] w fun e w' => e = .returned (.int .i64 (d.flushE x y)) ∧ Dv w0 w' v p b (d.flushS x y) := by
  obtain ⟨⟨f, g, m, ha, h1, h2, h3⟩, hv, hv0, hi⟩ := h
  exact (Flush_any p g m d x y w ha hx hy).mono fun e w' ⟨he, hT⟩ => ⟨he, Dv.disk f ha h1 h2 h3 hv hv0 (by rw [flushS_n]; exact hi) hT⟩
theorem Dv.cells (h : Dv w0 w v p b d) : w.cell? ⟨v, 0, none⟩ = some (ptr p) ∧ w.cell? ⟨v, 1, none⟩ = some (.int .i64 b.first) ∧ w.cell? ⟨v, 2, none⟩ = some (.int .i64 b.count) :=
  ⟨h.dev.cells.choose_spec.1.c0, h.dev.cells.choose_spec.1.c1, h.dev.cells.choose_spec.1.c2⟩
set_option maxRecDepth 100000 in
theorem Barrier_any (h : Dv w0 w v p b d) : Calls Try.prog 26 #[ptr v] w fun e w' => e = .returned (.int .i64 (b.barrierE d)) ∧ Dv w0 w' v p b (b.barrierD d) := by
  have hD := Lib.hid h.dd.isDead
  have hf := h.dev.ok.f
  have hc := h.dev.ok.c
  have HF := Lib.hid (fun W (hh : Dv w0 W v p b d) => hh.flush b.first b.count (by omega) (by omega))
  have H := Lib.hid h
  obtain ⟨c0, c1, c2⟩ := h.cells
  cases hd : d.dead with
  | true =>
    have E1 := Lib.hid (show (2 : Int) = b.barrierE d by unfold Bv.barrierE; rw [hd]; rfl)
    have E2 := Lib.hid (show b.barrierD d = d by unfold Bv.barrierD; rw [hd]; rfl)
    rw [hd] at hD
    generalize b.barrierE d = V at *
    generalize b.barrierD d = DD at *
    clear h c1 c2 hf hc
    go_enter Try.func26, Try.ntmps26
    go_wp2_with (go_at_call 66; refine hD.out.mono ?_; rintro e w1 ⟨rfl, rfl⟩)
    go_ret
    exact ⟨ret_int E1.out, by rw [E2.out]; exact H.out⟩
  | false =>
    have E1 := Lib.hid (show d.flushE b.first b.count = b.barrierE d by unfold Bv.barrierE; rw [hd]; rfl)
    have E2 := Lib.hid (show b.barrierD d = d.flushS b.first b.count by unfold Bv.barrierD; rw [hd]; rfl)
    rw [hd] at hD
    generalize b.barrierE d = V at *
    generalize b.barrierD d = DD at *
    generalize d.flushE b.first b.count = VF at *
    generalize d.flushS b.first b.count = DF at *
    clear h hf hc
    go_enter Try.func26, Try.ntmps26
    go_wp2_with (go_at_call 66; refine hD.out.mono ?_; rintro e w1 ⟨rfl, rfl⟩)
    have Hdr := Lib.hid (H.out.to (Fr.refl _ _).drew)
    go_region_held3 (fun W => W.cell? ⟨v, 0, none⟩ = some (ptr p) ∧ W.cell? ⟨v, 1, none⟩ = some (.int .i64 b.first) ∧ W.cell? ⟨v, 2, none⟩ = some (.int .i64 b.count)) (first | exact ⟨c0, c1, c2⟩ | exact kk | go_keep) (first
      | (go_at_call 48; refine (HF.out _ Hdr.out).mono ?_; rintro e w4 ⟨rfl, hT⟩; have kk := hT.cells))
    go_wp2_with fail
    go_ret
    exact ⟨ret_int E1.out, by rw [E2.out]; exact hT⟩
set_option maxRecDepth 100000 in
theorem Stamp_any (h : Dv w0 w v p b d) (i : Int) : Calls Try.prog 34 #[ptr v, .int .i64 i] w fun e w' => e = .returned (b.stampV d i) ∧ Dv w0 w' v p b d := by
  have HA := Lib.hid (asked_any h i)
  have H := Lib.hid h
  by_cases ha : askedE b d i = 0
  · obtain ⟨hdead, hi0, hic⟩ := askedE_ok ha
    have hok := h.dev.ok
    rw [ha] at HA
    obtain ⟨hr1, hr2⟩ := h.readE ha
    have hsz := sec_size h.dd.ok (b.first + i.toNat)
    have hfi := hok.f
    have hcn := hok.c
    have HR := Lib.hid (fun W (h : Dv w0 W v p b d) => (show Calls Try.prog 65 #[ptr p, .int .i64 ((b.first : Int) + i)] W fun e w' => e = .returned (.tuple #[.string (d.sec (b.first + i.toNat)), .int .i64 0]) ∧ Fr [] W w' from
      (h.dd.read ((b.first : Int) + i)).mono fun e w' ⟨he, hf⟩ => ⟨by rw [he, hr1, hr2], hf⟩))
    have HP := Lib.hid (fun W => stamped_any (d.sec (b.first + i.toNat)) hsz W)
    have hwi : IntKind.i64.wrap ((b.first : Int) + i) = (b.first : Int) + i := IntWalk.i64_in _ (by omega)
    obtain ⟨c0, c1, c2⟩ := h.cells
    have HC := Lib.hid (fun W (h : Dv w0 W v p b d) => (show W.cell? ⟨v, 0, none⟩ = some (ptr p) ∧ W.cell? ⟨v, 1, none⟩ = some (.int .i64 b.first) from ⟨h.cells.1, h.cells.2.1⟩))
    have Hdr := Lib.hid (h.to (Fr.refl _ _).drew)
    cases hse : stampedE (d.sec (b.first + i.toNat)) with
    | true =>
      have E := Lib.hid (show b.stampV d i = .tuple #[.int .i64 (stampOf (d.sec (b.first + i.toNat)) : Int), .int .i64 0] by unfold Bv.stampV; rw [if_neg (by omega), hse, if_neg (by simp)])
      have E2 : stampedN (d.sec (b.first + i.toNat)) = stampOf (d.sec (b.first + i.toNat)) := by unfold stampedN; rw [hse, if_pos rfl]
      rw [hse, E2] at HP
      generalize stampOf (d.sec (b.first + i.toNat)) = ST at *
      generalize d.sec (b.first + i.toNat) = s at *
      generalize b.stampV d i = RV at *
      clear h ha hdead hi0 hic hok hr1 hr2 hsz hfi hcn hse E2
      go_enter Try.func34, Try.ntmps34
      go_wp2_with (go_at_call 61; refine HA.out.mono ?_; rintro e w1 ⟨rfl, rfl⟩)
      go_region_held3 (fun W => W.cell? ⟨v, 0, none⟩ = some (ptr p) ∧ W.cell? ⟨v, 1, none⟩ = some (.int .i64 b.first)) (first | exact ⟨c0, c1⟩ | exact kk | go_keep) (first
        | (go_at_call 65; refine (HR.out _ Hdr.out).mono ?_; rintro e w3 ⟨rfl, hf3⟩; have hd3 := Hdr.out.to hf3; have kk := HC.out _ hd3))
      go_wp2_with (go_at_call 58; refine (HP.out _).mono ?_; rintro e w4 ⟨rfl, rfl⟩)
      go_ret2
      exact ⟨by rw [E.out]; rfl, hd3⟩
    | false =>
      have E := Lib.hid (show b.stampV d i = .tuple #[.int .i64 0, .int .i64 153] by unfold Bv.stampV; rw [if_neg (by omega), hse, if_pos rfl])
      have E2 : stampedN (d.sec (b.first + i.toNat)) = 0 := by unfold stampedN; rw [hse]; rfl
      rw [hse, E2] at HP
      generalize d.sec (b.first + i.toNat) = s at *
      generalize b.stampV d i = RV at *
      clear h ha hdead hi0 hic hok hr1 hr2 hsz hfi hcn hse E2
      go_enter Try.func34, Try.ntmps34
      go_wp2_with (go_at_call 61; refine HA.out.mono ?_; rintro e w1 ⟨rfl, rfl⟩)
      go_region_held3 (fun W => W.cell? ⟨v, 0, none⟩ = some (ptr p) ∧ W.cell? ⟨v, 1, none⟩ = some (.int .i64 b.first)) (first | exact ⟨c0, c1⟩ | exact kk | go_keep) (first
        | (go_at_call 65; refine (HR.out _ Hdr.out).mono ?_; rintro e w3 ⟨rfl, hf3⟩; have hd3 := Hdr.out.to hf3; have kk := HC.out _ hd3))
      go_wp2_with (go_at_call 58; refine (HP.out _).mono ?_; rintro e w4 ⟨rfl, rfl⟩)
      go_ret2
      exact ⟨by rw [E.out]; rfl, hd3⟩
  · have E := Lib.hid (show b.stampV d i = .tuple #[.int .i64 0, .int .i64 (askedE b d i)] from if_pos ha)
    generalize b.stampV d i = RV at *
    generalize askedE b d i = V at *
    clear h
    go_enter Try.func34, Try.ntmps34
    go_wp2_with (go_at_call 61; refine HA.out.mono ?_; rintro e w1 ⟨rfl, rfl⟩)
    go_ret2
    exact ⟨by rw [E.out]; rfl, H.out⟩
end
theorem bytesV_ok {t : ByteArray} {n : Int} (h : bytesE t n = 0) : (bytesV t n).size = 128 := by
  unfold bytesV
  rw [if_pos h]
  show (blkL t n.toNat).toArray.size = 128
  rw [List.size_toArray]
  unfold blkL
  rw [List.length_append, List.length_append, padB_len, numB_len, numB_len]
section
variable {w0 w : World} {v p : Nat} {b : Bv} {d : Dk}
set_option maxRecDepth 100000 in
theorem WriteB_any (h : Dv w0 w v p b d) (i : Int) (t : ByteArray) (n : Int) (ht : t.size ≤ maxLen) : Calls Try.prog 25 #[ptr v, .int .i64 i, .string t, .int .i64 n] w fun e w' => e = .returned (.int .i64 (b.writeE d i t n)) ∧ Dv w0 w' v p (b.writeB d i t n) (b.writeD d i t n) := by
  have HA := Lib.hid (asked_any h i)
  have HB := Lib.hid (fun W => Bytes_any t n W ht)
  have H := Lib.hid h
  by_cases ha : askedE b d i = 0
  · rw [ha] at HA
    by_cases hb : bytesE t n = 0
    · obtain ⟨hdead, hi0, hic⟩ := askedE_ok ha
      have hfi := h.dev.ok.f
      have hcn := h.dev.ok.c
      have hsz := bytesV_ok hb
      have hwi : IntKind.i64.wrap ((b.first : Int) + i) = (b.first : Int) + i := IntWalk.i64_in _ (by omega)
      have HW := Lib.hid (fun W (hh : Dv w0 W v p b d) => hh.write ((b.first : Int) + i) (bytesV t n) (by rw [hsz]; simp [maxLen]))
      have E1 := Lib.hid (show d.writeE ((b.first : Int) + i) (bytesV t n) = b.writeE d i t n by unfold Bv.writeE; rw [if_neg (by omega), if_neg (by omega)])
      have E2 := Lib.hid (show b.writeD d i t n = d.writeS ((b.first : Int) + i) (bytesV t n) by unfold Bv.writeD; rw [if_neg (by omega), if_neg (by omega)])
      have E3 := Lib.hid (show b.writeB d i t n = if b.writeE d i t n ≠ 0 then b else b.touch ⟨i, (bytesV t n).extract 0 116, n⟩ from rfl)
      rw [hb] at HB
      have hsl := fun wx => sl_h (bytesV t n) 116 (116 : Int) rfl wx (by omega)
      have HC := Lib.hid (fun W (hf : Fr [] w W) => (show W.cell? ⟨v, 0, none⟩ = some (ptr p) ∧ W.cell? ⟨v, 1, none⟩ = some (.int .i64 b.first) from ⟨(h.to hf).cells.1, (h.to hf).cells.2.1⟩))
      have HT := Lib.hid (fun W d' (hh : Dv w0 W v p b d') (k : Kp) => touch_any v p b k W hh.dev)
      generalize (bytesV t n).extract 0 116 = X at *
      generalize b.writeD d i t n = WD at *
      generalize d.writeS ((b.first : Int) + i) (bytesV t n) = WS at *
      generalize b.writeB d i t n = WB at *
      generalize bytesV t n = s at *
      by_cases he : b.writeE d i t n = 0
      · rw [he] at E1
        rw [if_neg (by omega)] at E3
        rw [he]
        rw [E1.out] at HW
        clear h ha hb hdead hi0 hic hfi hcn hsz he
        go_enter Try.func25, Try.ntmps25
        go_wp2_with (first
          | (go_at_call 61; refine HA.out.mono ?_; rintro e w1 ⟨rfl, rfl⟩)
          | (go_at_call 15; refine (HB.out _).mono ?_; rintro e w2 ⟨rfl, hf2⟩; obtain ⟨c0, c1⟩ := HC.out _ hf2; have hd2 := H.out.to hf2))
        have Hdr := Lib.hid (hd2.to (Fr.refl _ _).drew)
        go_region_held3 (fun W => W.cell? ⟨v, 0, none⟩ = some (ptr p) ∧ W.cell? ⟨v, 1, none⟩ = some (.int .i64 b.first)) (first | exact ⟨c0, c1⟩ | exact kk | go_keep) (first
          | (go_at_call 30; refine (HW.out _ Hdr.out).mono ?_; rintro e w4 ⟨rfl, hT⟩; have kk := (show _ ∧ _ from ⟨hT.cells.1, hT.cells.2.1⟩)))
        go_wp2_with (go_at_call 64; refine (HT.out _ _ hT ⟨i, X, n⟩).mono ?_; rintro e w5 ⟨rfl, hd5, hf5⟩)
        go_ret
        exact ⟨rfl, by rw [E2.out, E3.out]; exact Dv.turn hT hf5 hd5 ⟨rfl, rfl⟩⟩
      · rw [if_pos he] at E3
        generalize b.writeE d i t n = V at *
        rw [E1.out] at HW
        clear h ha hb hdead hi0 hic hfi hcn hsz
        go_enter Try.func25, Try.ntmps25
        go_wp2_with (first
          | (go_at_call 61; refine HA.out.mono ?_; rintro e w1 ⟨rfl, rfl⟩)
          | (go_at_call 15; refine (HB.out _).mono ?_; rintro e w2 ⟨rfl, hf2⟩; obtain ⟨c0, c1⟩ := HC.out _ hf2; have hd2 := H.out.to hf2))
        have Hdr := Lib.hid (hd2.to (Fr.refl _ _).drew)
        go_region_held3 (fun W => W.cell? ⟨v, 0, none⟩ = some (ptr p) ∧ W.cell? ⟨v, 1, none⟩ = some (.int .i64 b.first)) (first | exact ⟨c0, c1⟩ | exact kk | go_keep) (first
          | (go_at_call 30; refine (HW.out _ Hdr.out).mono ?_; rintro e w4 ⟨rfl, hT⟩; have kk := (show _ ∧ _ from ⟨hT.cells.1, hT.cells.2.1⟩)))
        go_wp2_with fail
        go_ret
        exact ⟨rfl, by rw [E2.out, E3.out]; exact hT⟩
    · have E1 := Lib.hid (show bytesE t n = b.writeE d i t n by unfold Bv.writeE; rw [if_neg (by omega), if_pos hb])
      have E2 := Lib.hid (show b.writeD d i t n = d by unfold Bv.writeD; rw [if_neg (by omega), if_pos hb])
      have E3 := Lib.hid (show b.writeB d i t n = b by unfold Bv.writeB; rw [← E1.out, if_pos hb])
      generalize b.writeD d i t n = WD at *
      generalize b.writeB d i t n = WB at *
      generalize b.writeE d i t n = V at *
      generalize bytesE t n = VB at *
      generalize bytesV t n = s at *
      clear h ha
      go_enter Try.func25, Try.ntmps25
      go_wp2_with (first
        | (go_at_call 61; refine HA.out.mono ?_; rintro e w1 ⟨rfl, rfl⟩)
        | (go_at_call 15; refine (HB.out _).mono ?_; rintro e w2 ⟨rfl, hf2⟩))
      go_ret
      exact ⟨ret_int E1.out, by rw [E2.out, E3.out]; exact H.out.to hf2⟩
  · have E1 := Lib.hid (show askedE b d i = b.writeE d i t n by unfold Bv.writeE; rw [if_pos ha])
    have E2 := Lib.hid (show b.writeD d i t n = d by unfold Bv.writeD; rw [if_pos ha])
    have E3 := Lib.hid (show b.writeB d i t n = b by unfold Bv.writeB; rw [← E1.out, if_pos ha])
    generalize b.writeD d i t n = WD at *
    generalize b.writeB d i t n = WB at *
    generalize b.writeE d i t n = V at *
    generalize askedE b d i = VA at *
    clear h
    go_enter Try.func25, Try.ntmps25
    go_wp2_with (go_at_call 61; refine HA.out.mono ?_; rintro e w1 ⟨rfl, rfl⟩)
    go_ret
    exact ⟨ret_int E1.out, by rw [E2.out, E3.out]; exact H.out⟩
end
end Go.Proofs.Ythmnloapjdalpaa

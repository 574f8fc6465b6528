/- An extent's Read. -/
import Derived.Test.YthmnloapjdalpaaD4
namespace Go.Proofs.Ythmnloapjdalpaa
open Go.RowKit
set_option linter.unusedVariables false
set_option linter.unusedSimpArgs false
def Bv.find (b : Bv) (i : Int) : Option Kp := b.cache.find? fun o => decide (o.at_ = i)
def Bv.miss (b : Bv) : Bv := { b with misses := b.misses + 1 }
def Bv.readB (b : Bv) (d : Dk) (i : Int) : Bv :=
  if askedE b d i ≠ 0 then b else
  match b.find i with
  | some k => b.touch k
  | none => if parseE (d.sec (b.first + i.toNat)) = 0 then b.miss.touch ⟨i, parseD (d.sec (b.first + i.toNat)), parseN (d.sec (b.first + i.toNat))⟩ else b.miss
def Bv.readV (b : Bv) (d : Dk) (i : Int) : Value :=
  if askedE b d i ≠ 0 then .tuple #[.string ⟨#[]⟩, .int .i64 0, .int .i64 (askedE b d i)] else
  match b.find i with
  | some k => .tuple #[.string k.data, .int .i64 k.stamp, .int .i64 0]
  | none => ParseR (d.sec (b.first + i.toNat))
theorem find_some {b : Bv} {i : Int} {j : Nat} {k : Kp} (h1 : b.cache[j]? = some k) (h2 : (fun o : Kp => decide (o.at_ = i)) k = true) (h3 : ∀ j' k', j' < j → b.cache[j']? = some k' → (fun o : Kp => decide (o.at_ = i)) k' = false) : b.find i = some k := by
  unfold Bv.find
  rw [List.find?_eq_some_iff_getElem]
  refine ⟨h2, j, (List.getElem?_eq_some_iff.1 h1).1, (List.getElem?_eq_some_iff.1 h1).2, fun j' hj' => ?_⟩
  have hl : j' < b.cache.length := Nat.lt_trans hj' (List.getElem?_eq_some_iff.1 h1).1
  have := h3 j' b.cache[j'] hj' (List.getElem?_eq_getElem hl)
  simpa using this
theorem find_none {b : Bv} {i : Int} (h : ∀ k, k ∈ b.cache → (fun o : Kp => decide (o.at_ = i)) k = false) : b.find i = none := by
  unfold Bv.find
  rw [List.find?_eq_none]
  intro k hk
  have := h k hk
  simpa using this
theorem askedE_ok {b : Bv} {d : Dk} {i : Int} (h : askedE b d i = 0) : d.dead = false ∧ 0 ≤ i ∧ i < b.count := by
  unfold askedE at h
  split at h
  · cases h
  · split at h
    · cases h
    · rename_i h1 h2
      exact ⟨by simpa using h1, by omega, by omega⟩
theorem Dv.readE {w0 w : World} {v p : Nat} {b : Bv} {d : Dk} (h : Dv w0 w v p b d) {i : Int} (ha : askedE b d i = 0) : d.readE ((b.first : Int) + i) = 0 ∧ d.readV ((b.first : Int) + i) = d.sec (b.first + i.toNat) := by
  obtain ⟨h1, h2, h3⟩ := askedE_ok ha
  have hin := h.in_
  have e : d.readE ((b.first : Int) + i) = 0 := by
    unfold Dk.readE atE
    rw [h1]
    simp only [Bool.false_eq_true, if_false]
    rw [if_neg (by omega)]
  refine ⟨e, ?_⟩
  unfold Dk.readV
  rw [if_pos e]
  congr 1
  omega
theorem sec_size {d : Dk} (h : d.Ok) (i : Nat) : (d.sec i).size = 128 := by
  unfold Dk.sec
  cases hu : d.u i with
  | none => exact bs_size _ _ _
  | some t => exact (h.un i t hu).2
theorem Bv.Ok.miss {b : Bv} (h : b.Ok) : b.miss.Ok := ⟨h.f, h.c, h.k, h.l⟩
theorem DevAt.missed {w : World} {v p : Nat} {b : Bv} (h : DevAt w v p b) : DevAt (w.setCell ⟨v, 5, none⟩ (.int .i64 ((b.misses : Int) + 1))) v p b.miss := by
  obtain ⟨ok, cv, hb, hk⟩ := h
  have e : ((b.miss.misses : Nat) : Int) = (b.misses : Int) + 1 := by show ((b.misses + 1 : Nat) : Int) = _; omega
  refine ⟨ok.miss, cv, ?_, hk.fr (S := [v]) ((Fr.refl _ _).setCell (.inl (by simp)) _) (hb.noK (by decide))⟩
  rw [e]
  exact hb.set_ 5 _
def ReadBP (w0 : World) (v p : Nat) (b' : Bv) (d : Dk) (V : Value) (e : Ending) (w' : World) : Prop := e = .returned V ∧ Dv w0 w' v p b' d
set_option maxRecDepth 100000 in
set_option maxHeartbeats 1000000 in
theorem ReadB_any {w0 w : World} {v p : Nat} {b : Bv} {d : Dk} (h : Dv w0 w v p b d) (i : Int) (hm : b.misses < 9223372036854775807) : Calls Try.prog 24 #[ptr v, .int .i64 i] w (ReadBP w0 v p (b.readB d i) d (b.readV d i)) := by
  have hfb : Fr [] w (w.alloc (.cells #[.int .i64 i] 3)) := (Fr.refl [] w).alloc _
  have hbb := Blk.new w 3 #[.int .i64 i]
  have HBox := Lib.hid (fun W (hf : Fr [] (w.alloc (.cells #[.int .i64 i] 3)) W) => (show W.cell? ⟨w.heap.size, 0, none⟩ = some (.int .i64 i) from hf.cell_some (hbb.cell 0) (by simp)))
  have HA := Lib.hid (asked_any (h.to hfb) i)
  have H := Lib.hid (h.to hfb)
  have Hvb := Lib.hid (show v ≠ w.heap.size from by have := h.dev.lt; omega)
  have hk0 := HBox.out _ (Fr.refl _ _)
  clear h hfb
  by_cases ha : askedE b d i = 0
  · obtain ⟨hdead, hi0, hic⟩ := askedE_ok ha
    have hok := H.out.dev.ok
    rw [ha] at HA
    obtain ⟨cv, ⟨c0, c1, c2, c3, c4, c5, fz⟩, hks⟩ := H.out.dev.cells
    obtain ⟨A0, n0, cp0, rfl⟩ : ∃ A n cp, cv = .slice A n cp := by
      obtain ⟨A, cp, e, -⟩ := hks
      exact ⟨A, _, cp, e⟩
    have hn0 : n0 = b.cache.length := by
      obtain ⟨A', cap', h1, -⟩ := hks
      injection h1
    have hl16 := hok.l
    have hI := indexF_any A0 n0 cp0 b.cache 63 #[ptr w.heap.size] (fun o => decide (o.at_ = i)) _ hks (by omega) enter63 (fun o W' hf' => read1k_any i o _ W' (HBox.out _ hf'))
    rcases first_ex (fun o : Kp => decide (o.at_ = i)) b.cache with hnone | ⟨j, k, hj, hpk, hno⟩
    · have hI2 := Lib.hid (hI.mono (R' := fun e w' => e = .returned (.int .i64 (-1)) ∧ Fr [] (w.alloc (.cells #[.int .i64 i] 3)) w') (fun e w' ⟨x, he, hx, hf⟩ => ⟨by rw [he, idx_none hx hnone], hf⟩))
      have E1 := Lib.hid (show b.readB d i = (if parseE (d.sec (b.first + i.toNat)) = 0 then b.miss.touch ⟨i, parseD (d.sec (b.first + i.toNat)), parseN (d.sec (b.first + i.toNat))⟩ else b.miss) by unfold Bv.readB; rw [if_neg (by omega), find_none hnone])
      have E2 := Lib.hid (show b.readV d i = ParseR (d.sec (b.first + i.toNat)) by unfold Bv.readV; rw [if_neg (by omega), find_none hnone])
      obtain ⟨hr1, hr2⟩ := H.out.readE ha
      have hsz := sec_size H.out.dd.ok (b.first + i.toNat)
      have hfi := hok.f
      have hcn := hok.c
      have HR := Lib.hid (fun W (h : Dv w0 W v p b.miss d) => (show Calls Try.prog 65 #[ptr p, .int .i64 ((b.first : Int) + i)] W fun e w' => e = .returned (.tuple #[.string (d.sec (b.first + i.toNat)), .int .i64 0]) ∧ Fr [] W w' from
        (h.dd.read ((b.first : Int) + i)).mono fun e w' ⟨he, hf⟩ => ⟨by rw [he, hr1, hr2], hf⟩))
      have HP := Lib.hid (fun W => Parse_any (d.sec (b.first + i.toNat)) W (by rw [hsz]; simp [maxLen]))
      have HM := Lib.hid (fun W (hf : Fr [] (w.alloc (.cells #[.int .i64 i] 3)) W) => (show Dv w0 (W.setCell ⟨v, 5, none⟩ (.int .i64 ((b.misses : Int) + 1))) v p b.miss d from Dv.turn (H.out.to hf) ((Fr.refl _ _).setCell (.inl (by simp)) _) (H.out.to hf).dev.missed ⟨rfl, rfl⟩))
      have HV := Lib.hid (fun W (hf : Fr [] (w.alloc (.cells #[.int .i64 i] 3)) W) => (show W.cell? ⟨v, 5, none⟩ = some (.int .i64 b.misses) ∧ W.frozen? ⟨v, 5, none⟩ = false from ⟨hf.cell_some c5 (by simp), (H.out.to hf).dev.cells.choose_spec.1.fz 5⟩))
      have HW := Lib.hid (fun W (h : Dv w0 W v p b.miss d) => (show W.cell? ⟨v, 0, none⟩ = some (ptr p) ∧ W.cell? ⟨v, 1, none⟩ = some (.int .i64 b.first) from ⟨h.dev.cells.choose_spec.1.c0, h.dev.cells.choose_spec.1.c1⟩))
      have HT := Lib.hid (fun W (h : Dv w0 W v p b.miss d) (k : Kp) => touch_any v p b.miss k W h.dev)
      have hwm : IntKind.i64.wrap ((b.misses : Int) + 1) = (b.misses : Int) + 1 := IntWalk.i64_in _ (by omega)
      have hwi : IntKind.i64.wrap ((b.first : Int) + i) = (b.first : Int) + i := IntWalk.i64_in _ (by omega)
      generalize b.readV d i = RV at *
      generalize b.readB d i = RB at *
      generalize d.sec (b.first + i.toNat) = s at *
      clear hI hnone hks c0 c1 c2 c3 c5 fz hn0 hl16 hok hdead hi0 hic ha hm hbb hr1 hr2 hsz hfi hcn
      by_cases hpe : parseE s = 0
      · have E3 := Lib.hid (show ParseR s = .tuple #[.string (parseD s), .int .i64 (parseN s : Int), .int .i64 0] by unfold ParseR; rw [hpe])
        rw [if_pos hpe] at E1
        rw [E3.out] at E2 HP
        generalize parseD s = D at *
        generalize parseN s = NN at *
        clear E3 hpe
        go_enter Try.func24, Try.ntmps24
        generalize hWB : w.alloc (.cells #[.int .i64 i] 3) = WB at *
        go_wp2_with (first
          | (go_at_call 61; refine HA.out.mono ?_; rintro e w1 ⟨rfl, rfl⟩)
          | (go_at_call 62; refine hI2.out.mono ?_; rintro e w2 ⟨rfl, hf2⟩; obtain ⟨v5, f5⟩ := HV.out _ hf2; have HM2 := Lib.hid (HM.out _ hf2); have b2 := HBox.out _ hf2; have Hf2 := Lib.hid hf2; clear hf2))
        have hvl := Hvb.out
        have k1 : (w2.setCell ⟨v, 5, none⟩ (.int .i64 ((b.misses : Int) + 1))).cell? ⟨w.heap.size, 0, none⟩ = some (.int .i64 i) := ((Fr.refl [v] w2).setCell (.inl (by simp)) _).cell_some b2 (by simp; omega)
        obtain ⟨u0, u1⟩ := HW.out _ HM2.out
        have HMd := Lib.hid (HM2.out.to (Fr.refl [] _).drew)
        go_region_held3 (fun W => W.cell? ⟨w.heap.size, 0, none⟩ = some (.int .i64 i) ∧ W.cell? ⟨v, 0, none⟩ = some (ptr p) ∧ W.cell? ⟨v, 1, none⟩ = some (.int .i64 b.first)) (first | exact ⟨k1, u0, u1⟩ | exact kk | go_keep) (first
          | (go_at_call 65; refine (HR.out _ HMd.out).mono ?_; rintro e w3 ⟨rfl, hf3⟩; have hd3 := HMd.out.to hf3; have kk := (show _ ∧ _ ∧ _ from ⟨hf3.cell_some (show World.cell? (World.drew _) _ = _ from k1) (by simp), (HW.out _ hd3).1, (HW.out _ hd3).2⟩)))
        go_wp2_with (first
          | (go_at_call 17; refine (HP.out _).mono ?_; rintro e w4 ⟨rfl, hf4⟩; have b4 := hf4.cell_some kk.1 (by simp); have hd4 := hd3.to hf4)
          | (go_at_call 64; refine (HT.out _ hd4 ⟨i, D, NN⟩).mono ?_; rintro e w5 ⟨rfl, hd5, hf5⟩))
        go_ret3
        exact ⟨by rw [E2.out]; rfl, by rw [E1.out]; exact Dv.turn hd4 hf5 hd5 ⟨rfl, rfl⟩⟩
      · have E3 := Lib.hid (parseR_bad (s := s) rfl hpe)
        rw [if_neg hpe] at E1
        rw [E3.out] at E2 HP
        generalize parseE s = pe at *
        clear E3
        go_enter Try.func24, Try.ntmps24
        generalize hWB : w.alloc (.cells #[.int .i64 i] 3) = WB at *
        go_wp2_with (first
          | (go_at_call 61; refine HA.out.mono ?_; rintro e w1 ⟨rfl, rfl⟩)
          | (go_at_call 62; refine hI2.out.mono ?_; rintro e w2 ⟨rfl, hf2⟩; obtain ⟨v5, f5⟩ := HV.out _ hf2; have HM2 := Lib.hid (HM.out _ hf2); have b2 := HBox.out _ hf2; have Hf2 := Lib.hid hf2; clear hf2))
        have hvl := Hvb.out
        have k1 : (w2.setCell ⟨v, 5, none⟩ (.int .i64 ((b.misses : Int) + 1))).cell? ⟨w.heap.size, 0, none⟩ = some (.int .i64 i) := ((Fr.refl [v] w2).setCell (.inl (by simp)) _).cell_some b2 (by simp; omega)
        obtain ⟨u0, u1⟩ := HW.out _ HM2.out
        have HMd := Lib.hid (HM2.out.to (Fr.refl [] _).drew)
        go_region_held3 (fun W => W.cell? ⟨w.heap.size, 0, none⟩ = some (.int .i64 i) ∧ W.cell? ⟨v, 0, none⟩ = some (ptr p) ∧ W.cell? ⟨v, 1, none⟩ = some (.int .i64 b.first)) (first | exact ⟨k1, u0, u1⟩ | exact kk | go_keep) (first
          | (go_at_call 65; refine (HR.out _ HMd.out).mono ?_; rintro e w3 ⟨rfl, hf3⟩; have hd3 := HMd.out.to hf3; have kk := (show _ ∧ _ ∧ _ from ⟨hf3.cell_some (show World.cell? (World.drew _) _ = _ from k1) (by simp), (HW.out _ hd3).1, (HW.out _ hd3).2⟩)))
        go_wp2_with (first
          | (go_at_call 17; refine (HP.out _).mono ?_; rintro e w4 ⟨rfl, hf4⟩; have hd4 := hd3.to hf4))
        go_ret3
        exact ⟨by rw [E2.out]; rfl, by rw [E1.out]; exact hd4⟩
    · have hI2 := Lib.hid (hI.mono (R' := fun e w' => e = .returned (.int .i64 (j : Int)) ∧ Fr [] (w.alloc (.cells #[.int .i64 i] 3)) w') (fun e w' ⟨x, he, hx, hf⟩ => ⟨by rw [he, idx_some hx hj hpk hno], hf⟩))
      have E1 := Lib.hid (show b.readB d i = b.touch k by unfold Bv.readB; rw [if_neg (by omega), find_some hj hpk hno])
      have E2 := Lib.hid (show b.readV d i = .tuple #[.string k.data, .int .i64 k.stamp, .int .i64 0] by unfold Bv.readV; rw [if_neg (by omega), find_some hj hpk hno])
      have HC := Lib.hid (fun W (hf : Fr [] (w.alloc (.cells #[.int .i64 i] 3)) W) => (hks.fr hf (NoK.nil _)).cell hj)
      obtain ⟨q, o, rfl, -, -⟩ := hks.cell hj
      have hjn : j < n0 := by rw [hn0]; exact (List.getElem?_eq_some_iff.1 hj).1
      have hj0 : (0 : Int) ≤ (j : Int) := by omega
      have hjn' : (j : Int) < (n0 : Int) := by omega
      have HV := Lib.hid (fun W (hf : Fr [] (w.alloc (.cells #[.int .i64 i] 3)) W) => (show W.cell? ⟨v, 4, none⟩ = some (.slice (some ⟨q, o, none⟩) n0 cp0) from hf.cell_some c4 (by simp)))
      have HT := Lib.hid (fun W (hf : Fr [] (w.alloc (.cells #[.int .i64 i] 3)) W) => touch_any v p b k W ((H.out.to hf).dev))
      generalize b.readV d i = RV at *
      generalize b.readB d i = RB at *
      clear hI hj hpk hno hks c0 c1 c2 c3 c5 fz hn0 hl16 hok hdead hi0 hic ha hm hbb
      go_enter Try.func24, Try.ntmps24
      generalize hWB : w.alloc (.cells #[.int .i64 i] 3) = WB at *
      go_wp2_with (first
        | (go_at_call 61; refine HA.out.mono ?_; rintro e w1 ⟨rfl, rfl⟩)
        | (go_at_call 62; refine hI2.out.mono ?_; rintro e w2 ⟨rfl, hf2⟩; have c4' := HV.out _ hf2; obtain ⟨q', o', hqo, -, d0, d1, d2⟩ := HC.out _ hf2; injection hqo with hqo; injection hqo with e1 e2 _; subst e1; subst e2; have Hf2 := Lib.hid hf2; clear hf2)
        | (go_at_call 64; refine (HT.out _ (Hf2.out.alloc _)).mono ?_; rintro e w3 ⟨rfl, hd3, hf3⟩; have hvl := ((H.out.to Hf2.out).dev.lt); have r1 := hf3.cell_some ((Blk.new w2 117 #[.int .i64 k.at_, .string k.data, .int .i64 k.stamp]).cell 1) (by simp; omega); have r2 := hf3.cell_some ((Blk.new w2 117 #[.int .i64 k.at_, .string k.data, .int .i64 k.stamp]).cell 2) (by simp; omega); simp at r1 r2; have Hfin := Lib.hid (Dv.turn (H.out.to (Hf2.out.alloc _)) hf3 hd3 ⟨rfl, rfl⟩); clear hd3 hf3 hvl))
      go_quiet (fail)
      go_wp2_with fail
      go_ret3
      exact ⟨by rw [E2.out]; rfl, by rw [E1.out]; exact Hfin.out.to ((Fr.refl [] _).drewN _)⟩
  · have E1 := Lib.hid (show b.readB d i = b from if_pos ha)
    have E2 := Lib.hid (show b.readV d i = .tuple #[.string ⟨#[]⟩, .int .i64 0, .int .i64 (askedE b d i)] from if_pos ha)
    generalize b.readV d i = RV at *
    generalize b.readB d i = RB at *
    generalize askedE b d i = V at *
    clear hm hbb
    go_enter Try.func24, Try.ntmps24
    go_wp2_with (go_at_call 61; refine HA.out.mono ?_; rintro e w1 ⟨rfl, rfl⟩)
    go_ret3
    exact ⟨by rw [E2.out]; rfl, by rw [E1.out]; exact H.out⟩
end Go.Proofs.Ythmnloapjdalpaa

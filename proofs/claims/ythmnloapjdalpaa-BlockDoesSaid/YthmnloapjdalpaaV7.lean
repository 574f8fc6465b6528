/- does: a call on both sides, each way. -/
import Derived.Test.YthmnloapjdalpaaV6
import Derived.Test.YthmnloapjdalpaaOpen4
namespace Go.Proofs.Ythmnloapjdalpaa
open Go.RowKit
set_option linter.unusedVariables false
set_option linter.unusedSimpArgs false
set_option maxRecDepth 100000 in
theorem Stamp_fr {w0 w : World} {v p : Nat} {b : Bv} {d : Dk} (h : Dv w0 w v p b d) (i : Int) : Calls Try.prog 34 #[ptr v, .int .i64 i] w fun e w' => e = .returned (b.stampV d i) ∧ Fr [] w w' := by
  have HA := Lib.hid (asked_any h i)
  have H := Lib.hid h
  by_cases ha : askedE b d i = 0
  · obtain ⟨hdead, hi0, hic⟩ := askedE_ok ha
    have hok := h.dev.ok
    rw [ha] at HA
    obtain ⟨hr1, hr2⟩ := h.readE ha
    have hsz := sec_size h.dd.ok (b.first + i.toNat)
    have hfi := hok.f
    have hcn := hok.c
    have HR := Lib.hid (fun W (h : Dv w0 W v p b d) => (show Calls Try.prog 65 #[ptr p, .int .i64 ((b.first : Int) + i)] W fun e w' => e = .returned (.tuple #[.string (d.sec (b.first + i.toNat)), .int .i64 0]) ∧ Fr [] W w' from
      (h.dd.read ((b.first : Int) + i)).mono fun e w' ⟨he, hf⟩ => ⟨by rw [he, hr1, hr2], hf⟩))
    have HP := Lib.hid (fun W => stamped_any (d.sec (b.first + i.toNat)) hsz W)
    have hwi : IntKind.i64.wrap ((b.first : Int) + i) = (b.first : Int) + i := IntWalk.i64_in _ (by omega)
    obtain ⟨c0, c1, c2⟩ := h.cells
    have HC := Lib.hid (fun W (h : Dv w0 W v p b d) => (show W.cell? ⟨v, 0, none⟩ = some (ptr p) ∧ W.cell? ⟨v, 1, none⟩ = some (.int .i64 b.first) from ⟨h.cells.1, h.cells.2.1⟩))
    have Hdr := Lib.hid (h.to (Fr.refl _ _).drew)
    cases hse : stampedE (d.sec (b.first + i.toNat)) with
    | true =>
      have E := Lib.hid (show b.stampV d i = .tuple #[.int .i64 (stampOf (d.sec (b.first + i.toNat)) : Int), .int .i64 0] by unfold Bv.stampV; rw [if_neg (by omega), hse, if_neg (by simp)])
      have E2 : stampedN (d.sec (b.first + i.toNat)) = stampOf (d.sec (b.first + i.toNat)) := by unfold stampedN; rw [hse, if_pos rfl]
      rw [hse, E2] at HP
      generalize stampOf (d.sec (b.first + i.toNat)) = ST at *
      generalize d.sec (b.first + i.toNat) = s at *
      generalize b.stampV d i = RV at *
      clear h ha hdead hi0 hic hok hr1 hr2 hsz hfi hcn hse E2
      go_enter Try.func34, Try.ntmps34
      go_wp2_with (go_at_call 61; refine HA.out.mono ?_; rintro e w1 ⟨rfl, rfl⟩)
      go_region_held3 (fun W => W.cell? ⟨v, 0, none⟩ = some (ptr p) ∧ W.cell? ⟨v, 1, none⟩ = some (.int .i64 b.first)) (first | exact ⟨c0, c1⟩ | exact kk | go_keep) (first
        | (go_at_call 65; refine (HR.out _ Hdr.out).mono ?_; rintro e w3 ⟨rfl, hf3⟩; have hd3 := Hdr.out.to hf3; have kk := HC.out _ hd3))
      go_wp2_with (go_at_call 58; refine (HP.out _).mono ?_; rintro e w4 ⟨rfl, rfl⟩)
      go_ret2
      exact ⟨by rw [E.out]; rfl, (Fr.refl _ _).drew.trans hf3⟩
    | false =>
      have E := Lib.hid (show b.stampV d i = .tuple #[.int .i64 0, .int .i64 153] by unfold Bv.stampV; rw [if_neg (by omega), hse, if_pos rfl])
      have E2 : stampedN (d.sec (b.first + i.toNat)) = 0 := by unfold stampedN; rw [hse]; rfl
      rw [hse, E2] at HP
      generalize d.sec (b.first + i.toNat) = s at *
      generalize b.stampV d i = RV at *
      clear h ha hdead hi0 hic hok hr1 hr2 hsz hfi hcn hse E2
      go_enter Try.func34, Try.ntmps34
      go_wp2_with (go_at_call 61; refine HA.out.mono ?_; rintro e w1 ⟨rfl, rfl⟩)
      go_region_held3 (fun W => W.cell? ⟨v, 0, none⟩ = some (ptr p) ∧ W.cell? ⟨v, 1, none⟩ = some (.int .i64 b.first)) (first | exact ⟨c0, c1⟩ | exact kk | go_keep) (first
        | (go_at_call 65; refine (HR.out _ Hdr.out).mono ?_; rintro e w3 ⟨rfl, hf3⟩; have hd3 := Hdr.out.to hf3; have kk := HC.out _ hd3))
      go_wp2_with (go_at_call 58; refine (HP.out _).mono ?_; rintro e w4 ⟨rfl, rfl⟩)
      go_ret2
      exact ⟨by rw [E.out]; rfl, (Fr.refl _ _).drew.trans hf3⟩
  · have E := Lib.hid (show b.stampV d i = .tuple #[.int .i64 0, .int .i64 (askedE b d i)] from if_pos ha)
    generalize b.stampV d i = RV at *
    generalize askedE b d i = V at *
    clear h
    go_enter Try.func34, Try.ntmps34
    go_wp2_with (go_at_call 61; refine HA.out.mono ?_; rintro e w1 ⟨rfl, rfl⟩)
    go_ret2
    exact ⟨by rw [E.out]; rfl, Fr.refl _ _⟩
abbrev OpB.v (x : OpB) (cv : Value) : Array Value := #[.int .i64 x.on, .int .i64 x.kind, .int .i64 x.a, .int .i64 x.b, .string x.s, cv]
def DoesQ (z : List Nat) (w : World) (s p q : Nat) (b : Bv) (d : Dk) (e : Ending) (w' : World) : Prop := e = .returned (.bool true) ∧ ∃ v' y' b1 d1, Sq z w w' s v' p y' q b1 b1 d1 d1 ∧ CohD b1 d1 ∧ b1.misses ≤ b.misses + 1 ∧ d1.n = d.n
/-- What a call on both sides is given. -/
structure SideA (z : List Nat) (w : World) (s v p y q : Nat) (b : Bv) (d : Dk) (x : OpB) (cA : Option Addr) (cl cc : Nat) (f c k : Int) : Prop where
  h : Sq z w w s v p y q b b d d
  co : CohD b d
  lt : ∀ j, j ∈ z → j < w.heap.size
  qz : q ∈ z
  fine : x.Fine
  ch : Zw w (.slice cA cl cc) x.ch
  away : Zaway z cA x.ch
  b8 : cl * 8 ≤ 140737488355328
  m : b.misses < 9223372036854775807
  e : newBE d f c k = 0
section
variable {z : List Nat} {w w1 W : World} {s v p y q : Nat} {b b' : Bv} {d d' : Dk} {x : OpB} {cA : Option Addr} {cl cc : Nat} {f c k : Int}
theorem Sq.rebase (h : Sq z w w s v p y q b b' d d') (hz : ∀ k, k ∈ z → k < w.heap.size) (hf : Fr [] w w1) : Sq z w1 w1 s v p y q b b' d d' := by
  obtain ⟨hp, dv, v0, iv, rv, y0, iy, sd, s0⟩ := h
  have l1 := dv.lt
  have l2 := rv.lt
  have l3 := sd.lt
  exact ⟨hp.rebase hz hf, dv.to hf, .inl (v0.resolve_right (by omega)), iv, rv.to hf, .inl (y0.resolve_right (by omega)), iy, sd.fr hf (by simp), .inl (s0.resolve_right (by omega))⟩
theorem Sq.base (hf : Fr [] w w1) (h : Sq z w1 W s v p y q b b' d d') : Sq z w W s v p y q b b' d d' := by
  obtain ⟨hp, dv, v0, iv, rv, y0, iy, sd, s0⟩ := h
  have hs := hf.size
  have up : ∀ k, k ∈ z ∨ w1.heap.size ≤ k → k ∈ z ∨ w.heap.size ≤ k := fun k hk => hk.imp id (fun hk => by omega)
  exact ⟨Prz.base hf hp, dv, up _ v0, iv, rv, up _ y0, iy, sd, up _ s0⟩
/-- Behind the box. -/
structure SideB (z : List Nat) (w w1 : World) (s v p y q : Nat) (b : Bv) (d : Dk) (x : OpB) (cA : Option Addr) (cl cc : Nat) : Prop where
  h : Sq z w1 w1 s v p y q b b d d
  box : ∀ W, Fr z w1 W → W.cell? ⟨w.heap.size, 0, none⟩ = some (.int .i64 x.on) ∧ W.cell? ⟨w.heap.size, 1, none⟩ = some (.int .i64 x.kind) ∧ W.cell? ⟨w.heap.size, 2, none⟩ = some (.int .i64 x.a) ∧ W.cell? ⟨w.heap.size, 3, none⟩ = some (.int .i64 x.b) ∧ W.cell? ⟨w.heap.size, 4, none⟩ = some (.string x.s) ∧ W.cell? ⟨w.heap.size, 5, none⟩ = some (.slice cA cl cc)
  zw : ∀ W, Fr z w1 W → Zw W (.slice cA cl cc) x.ch
  fin : ∀ W v' y' b1 d1, Sq z w1 W s v' p y' q b1 b1 d1 d1 → CohD b1 d1 → b1.misses ≤ b.misses + 1 → d1.n = d.n → DoesQ z w s p q b d (.returned (.bool true)) W
theorem SideA.boxed (h : SideA z w s v p y q b d x cA cl cc f c k) (hw : w.alloc (.cells (x.v (.slice cA cl cc)) 44) = w1) : SideB z w w1 s v p y q b d x cA cl cc := by
  subst hw
  have hf : Fr [] w (w.alloc (.cells (x.v (.slice cA cl cc)) 44)) := (Fr.refl [] w).alloc _
  have hn : w.heap.size ∉ z := fun hk => by have := h.lt _ hk; omega
  refine ⟨h.h.rebase h.lt hf, fun W hW => ?_, fun W hW => (h.ch.fr hf (NoZ.nil _)).frz h.away hW, fun W v' y' b1 d1 hd h1 h2 h3 => ⟨rfl, v', y', b1, d1, Sq.base hf hd, h1, h2, h3⟩⟩
  have hb := (Blk.new w 44 (x.v (.slice cA cl cc))).fr hW hn
  exact ⟨hb.cell 0, hb.cell 1, hb.cell 2, hb.cell 3, hb.cell 4, hb.cell 5⟩
/-- The box's cells, and the side's. -/
theorem SideB.all (h : SideB z w w1 s v p y q b d x cA cl cc) {v' y' : Nat} {b1 b2 : Bv} {d1 d2 : Dk} (hd : Sq z w1 W s v' p y' q b1 b2 d1 d2) :
    W.cell? ⟨s, 0, none⟩ = some (ptr v') ∧ W.cell? ⟨s, 1, none⟩ = some (ptr p) ∧ W.cell? ⟨s, 2, none⟩ = some (ptr y') ∧ W.cell? ⟨s, 3, none⟩ = some (ptr q) ∧ W.cell? ⟨w.heap.size, 0, none⟩ = some (.int .i64 x.on) ∧ W.cell? ⟨w.heap.size, 1, none⟩ = some (.int .i64 x.kind) ∧ W.cell? ⟨w.heap.size, 2, none⟩ = some (.int .i64 x.a) ∧ W.cell? ⟨w.heap.size, 3, none⟩ = some (.int .i64 x.b) ∧ W.cell? ⟨w.heap.size, 4, none⟩ = some (.string x.s) ∧ W.cell? ⟨w.heap.size, 5, none⟩ = some (.slice cA cl cc) :=
  ⟨hd.cells.1, hd.cells.2.1, hd.cells.2.2.1, hd.cells.2.2.2, h.box W hd.fr⟩
end
theorem readV_tup (b : Bv) (d : Dk) (i : Int) : ∃ S N E, b.readV d i = .tuple #[.string S, .int .i64 N, .int .i64 E] := by
  unfold Bv.readV
  split
  · exact ⟨_, _, _, rfl⟩
  · split
    · exact ⟨_, _, _, rfl⟩
    · exact ⟨_, _, _, rfl⟩
theorem stampV_tup (b : Bv) (d : Dk) (i : Int) : ∃ N E, b.stampV d i = .tuple #[.int .i64 N, .int .i64 E] := by
  unfold Bv.stampV
  split
  · exact ⟨_, _, rfl⟩
  · split <;> exact ⟨_, _, rfl⟩
theorem newBE_same {d d' : Dk} (h : d'.n = d.n) (f c k : Int) : newBE d' f c k = newBE d f c k := by
  unfold newBE
  rw [h]
theorem touch_m (b : Bv) (k : Kp) : (b.touch k).misses = b.misses := rfl
theorem readB_m (b : Bv) (d : Dk) (i : Int) : (b.readB d i).misses ≤ b.misses + 1 := by
  unfold Bv.readB
  split
  · omega
  · split
    · rw [touch_m]; omega
    · split
      · rw [touch_m]; exact Nat.le_refl _
      · exact Nat.le_refl _
theorem writeB_m (b : Bv) (d : Dk) (i : Int) (t : ByteArray) (n : Int) : (b.writeB d i t n).misses ≤ b.misses + 1 := by
  unfold Bv.writeB
  split
  · omega
  · rw [touch_m]; omega
set_option maxRecDepth 100000 in
set_option maxHeartbeats 1000000 in
theorem does0 {z : List Nat} {w : World} {s v p y q : Nat} {b : Bv} {d : Dk} {x : OpB} {cA : Option Addr} {cl cc : Nat} {f c k : Int} (h : SideA z w s v p y q b d x cA cl cc f c k) (hk : x.kind = 0) : Calls Try.prog 41 #[ptr s, .agg (x.v (.slice cA cl cc)), .int .i64 f, .int .i64 c, .int .i64 k] w (DoesQ z w s p q b d) := by
  obtain ⟨w1, hw1⟩ : ∃ w1, w.alloc (.cells (x.v (.slice cA cl cc)) 44) = w1 := ⟨_, rfl⟩
  have HB := h.boxed hw1
  have hd := HB.h
  have hA := (wf_le h.fine.a).2
  have hok := h.h.pr.y.ok
  have hco := h.co
  have hin := h.h.iv
  have HX := Lib.hid (fun W b1 b2 d1 d2 (hd : Sq z w1 W s v p y q b1 b2 d1 d2) => HB.all hd)
  obtain ⟨S, N, E, hV⟩ := readV_tup b d x.a
  have H1 : Hid (∀ W, Sq z w1 W s v p y q b b d d → Calls Try.prog 24 #[ptr v, .int .i64 x.a] W fun e w' => e = .returned (b.readV d x.a) ∧ Sq z w1 w' s v p y q (b.readB d x.a) b d d) := Lib.hid fun W hh => hh.left fun zx hz => ReadB_z hz x.a h.m
  have H2 : Hid (∀ W, Sq z w1 W s v p y q (b.readB d x.a) b d d → Calls Try.prog 77 #[ptr y, .int .i64 x.a] W fun e w' => e = .returned (b.readV d x.a) ∧ Sq z w1 w' s v p y q (b.readB d x.a) (b.readB d x.a) d d) := Lib.hid fun W hh => hh.right fun hr => rRead15_any y q b d x.a W hr h.co h.m
  have HE := Lib.hid (fun W (hh : Sq z w1 W s v p y q (b.readB d x.a) (b.readB d x.a) d d) => HB.fin W v y _ d hh (h.co.read x.a) (readB_m b d x.a) rfl)
  rw [hV] at H1 H2
  unfold OpB.v at hw1 ⊢
  rw [hk] at HX hw1 ⊢
  obtain ⟨s0, s1, s2, s3, m0, m1, m2, m3, m4, m5⟩ := HX.out _ _ _ _ _ hd
  clear h HB hA hok hco hin
  clear hV
  generalize b.readB d x.a = B1 at *
  go_enter Try.func41, Try.ntmps41
  go_wp2_with fail
  have hd := hd.to (Fr.refl [] _).drew
  have k0 := HX.out _ _ _ _ _ hd
  go_region_held3 (fun W => W.cell? ⟨s, 0, none⟩ = some (ptr v) ∧ W.cell? ⟨s, 1, none⟩ = some (ptr p) ∧ W.cell? ⟨s, 2, none⟩ = some (ptr y) ∧ W.cell? ⟨s, 3, none⟩ = some (ptr q) ∧ W.cell? ⟨w.heap.size, 0, none⟩ = some (.int .i64 x.on) ∧ W.cell? ⟨w.heap.size, 1, none⟩ = some (.int .i64 0) ∧ W.cell? ⟨w.heap.size, 2, none⟩ = some (.int .i64 x.a) ∧ W.cell? ⟨w.heap.size, 3, none⟩ = some (.int .i64 x.b) ∧ W.cell? ⟨w.heap.size, 4, none⟩ = some (.string x.s) ∧ W.cell? ⟨w.heap.size, 5, none⟩ = some (.slice cA cl cc))
    (first | exact kk | exact k0) (first
    | (go_at_call 24; have hq := H1.out _ hd; clear hd; refine hq.mono ?_; clear hq; rintro e w5 ⟨rfl, hd⟩; have kk := HX.out _ _ _ _ _ hd))
  obtain ⟨s0, s1, s2, s3, m0, m1, m2, m3, m4, m5⟩ := kk
  clear k0
  go_wp2_with fail
  have hd := hd.to (Fr.refl [] _).drew
  have k0 := HX.out _ _ _ _ _ hd
  go_region_held3 (fun W => W.cell? ⟨s, 0, none⟩ = some (ptr v) ∧ W.cell? ⟨s, 1, none⟩ = some (ptr p) ∧ W.cell? ⟨s, 2, none⟩ = some (ptr y) ∧ W.cell? ⟨s, 3, none⟩ = some (ptr q) ∧ W.cell? ⟨w.heap.size, 0, none⟩ = some (.int .i64 x.on) ∧ W.cell? ⟨w.heap.size, 1, none⟩ = some (.int .i64 0) ∧ W.cell? ⟨w.heap.size, 2, none⟩ = some (.int .i64 x.a) ∧ W.cell? ⟨w.heap.size, 3, none⟩ = some (.int .i64 x.b) ∧ W.cell? ⟨w.heap.size, 4, none⟩ = some (.string x.s) ∧ W.cell? ⟨w.heap.size, 5, none⟩ = some (.slice cA cl cc))
    (first | exact kk | exact k0) (first
    | (go_at_call 77; have hq := H2.out _ hd; clear hd; refine hq.mono ?_; clear hq; rintro e w5 ⟨rfl, hd⟩; have kk := HX.out _ _ _ _ _ hd))
  go_wp2_with fail
  go_ret
  exact HE.out _ hd
set_option maxRecDepth 100000 in
set_option maxHeartbeats 1000000 in
theorem does1 {z : List Nat} {w : World} {s v p y q : Nat} {b : Bv} {d : Dk} {x : OpB} {cA : Option Addr} {cl cc : Nat} {f c k : Int} (h : SideA z w s v p y q b d x cA cl cc f c k) (hk : x.kind = 1) : Calls Try.prog 41 #[ptr s, .agg (x.v (.slice cA cl cc)), .int .i64 f, .int .i64 c, .int .i64 k] w (DoesQ z w s p q b d) := by
  obtain ⟨w1, hw1⟩ : ∃ w1, w.alloc (.cells (x.v (.slice cA cl cc)) 44) = w1 := ⟨_, rfl⟩
  have HB := h.boxed hw1
  have hd := HB.h
  have hA := (wf_le h.fine.a).2
  have hok := h.h.pr.y.ok
  have hco := h.co
  have hin := h.h.iv
  have HX := Lib.hid (fun W b1 b2 d1 d2 (hd : Sq z w1 W s v p y q b1 b2 d1 d2) => HB.all hd)
  obtain ⟨N, E, hV⟩ := stampV_tup b d x.a
  have H1 : Hid (∀ W, Sq z w1 W s v p y q b b d d → Calls Try.prog 34 #[ptr v, .int .i64 x.a] W fun e w' => e = .returned (b.stampV d x.a) ∧ Sq z w1 w' s v p y q b b d d) := Lib.hid fun W hh => (Stamp_fr (w0 := { W with heap := #[] }) (by
    obtain ⟨f0, g, m, ha, -⟩ := hh.pr.x
    exact ⟨⟨⟨rfl, rfl, rfl, Nat.zero_le _, fun k hk => absurd hk (by simp)⟩, g, m, ha, Nat.zero_le _, Nat.zero_le _, Nat.zero_le _⟩, hh.dv, Nat.zero_le _, hh.iv⟩) x.a).mono fun e w' ⟨he, hf⟩ => ⟨he, hh.to hf⟩
  have H2 : Hid (∀ W, Sq z w1 W s v p y q b b d d → Calls Try.prog 78 #[ptr y, .int .i64 x.a] W fun e w' => e = .returned (b.stampV d x.a) ∧ Sq z w1 w' s v p y q b b d d) := Lib.hid fun W hh => (rStamp15_any y q b d x.a W ⟨hh.rv, hh.pr.y, hh.iy⟩).mono fun e w' ⟨he, hf⟩ => ⟨he, hh.to hf⟩
  have HE := Lib.hid (fun W (hh : Sq z w1 W s v p y q b b d d) => HB.fin W v y _ d hh h.co (by omega) rfl)
  rw [hV] at H1 H2
  unfold OpB.v at hw1 ⊢
  rw [hk] at HX hw1 ⊢
  obtain ⟨s0, s1, s2, s3, m0, m1, m2, m3, m4, m5⟩ := HX.out _ _ _ _ _ hd
  clear h HB hA hok hco hin
  clear hV
  go_enter Try.func41, Try.ntmps41
  go_wp2_with fail
  have hd := hd.to (Fr.refl [] _).drew
  have k0 := HX.out _ _ _ _ _ hd
  go_region_held3 (fun W => W.cell? ⟨s, 0, none⟩ = some (ptr v) ∧ W.cell? ⟨s, 1, none⟩ = some (ptr p) ∧ W.cell? ⟨s, 2, none⟩ = some (ptr y) ∧ W.cell? ⟨s, 3, none⟩ = some (ptr q) ∧ W.cell? ⟨w.heap.size, 0, none⟩ = some (.int .i64 x.on) ∧ W.cell? ⟨w.heap.size, 1, none⟩ = some (.int .i64 1) ∧ W.cell? ⟨w.heap.size, 2, none⟩ = some (.int .i64 x.a) ∧ W.cell? ⟨w.heap.size, 3, none⟩ = some (.int .i64 x.b) ∧ W.cell? ⟨w.heap.size, 4, none⟩ = some (.string x.s) ∧ W.cell? ⟨w.heap.size, 5, none⟩ = some (.slice cA cl cc))
    (first | exact kk | exact k0) (first
    | (go_at_call 34; have hq := H1.out _ hd; clear hd; refine hq.mono ?_; clear hq; rintro e w5 ⟨rfl, hd⟩; have kk := HX.out _ _ _ _ _ hd))
  obtain ⟨s0, s1, s2, s3, m0, m1, m2, m3, m4, m5⟩ := kk
  clear k0
  go_wp2_with fail
  have hd := hd.to (Fr.refl [] _).drew
  have k0 := HX.out _ _ _ _ _ hd
  go_region_held3 (fun W => W.cell? ⟨s, 0, none⟩ = some (ptr v) ∧ W.cell? ⟨s, 1, none⟩ = some (ptr p) ∧ W.cell? ⟨s, 2, none⟩ = some (ptr y) ∧ W.cell? ⟨s, 3, none⟩ = some (ptr q) ∧ W.cell? ⟨w.heap.size, 0, none⟩ = some (.int .i64 x.on) ∧ W.cell? ⟨w.heap.size, 1, none⟩ = some (.int .i64 1) ∧ W.cell? ⟨w.heap.size, 2, none⟩ = some (.int .i64 x.a) ∧ W.cell? ⟨w.heap.size, 3, none⟩ = some (.int .i64 x.b) ∧ W.cell? ⟨w.heap.size, 4, none⟩ = some (.string x.s) ∧ W.cell? ⟨w.heap.size, 5, none⟩ = some (.slice cA cl cc))
    (first | exact kk | exact k0) (first
    | (go_at_call 78; have hq := H2.out _ hd; clear hd; refine hq.mono ?_; clear hq; rintro e w5 ⟨rfl, hd⟩; have kk := HX.out _ _ _ _ _ hd))
  go_wp2_with fail
  go_ret
  exact HE.out _ hd
set_option maxRecDepth 100000 in
set_option maxHeartbeats 1000000 in
theorem does2 {z : List Nat} {w : World} {s v p y q : Nat} {b : Bv} {d : Dk} {x : OpB} {cA : Option Addr} {cl cc : Nat} {f c k : Int} (h : SideA z w s v p y q b d x cA cl cc f c k) (hk : x.kind = 2) : Calls Try.prog 41 #[ptr s, .agg (x.v (.slice cA cl cc)), .int .i64 f, .int .i64 c, .int .i64 k] w (DoesQ z w s p q b d) := by
  obtain ⟨w1, hw1⟩ : ∃ w1, w.alloc (.cells (x.v (.slice cA cl cc)) 44) = w1 := ⟨_, rfl⟩
  have HB := h.boxed hw1
  have hd := HB.h
  have hA := (wf_le h.fine.a).2
  have hok := h.h.pr.y.ok
  have hco := h.co
  have hin := h.h.iv
  have HX := Lib.hid (fun W b1 b2 d1 d2 (hd : Sq z w1 W s v p y q b1 b2 d1 d2) => HB.all hd)
  have HZ := Lib.hid HB.zw
  have hb := (wf_le h.fine.b).2
  have H1 : Hid (∀ W, Sq z w1 W s v p y q b b d d → Calls Try.prog 25 #[ptr v, .int .i64 x.a, .string x.s, .int .i64 x.b] W fun e w' => e = .returned (.int .i64 (b.writeE d x.a x.s x.b)) ∧ Sq z w1 w' s v p y q (b.writeB d x.a x.s x.b) b (b.writeD d x.a x.s x.b) d) := Lib.hid fun W hh => hh.left fun zx hz => WriteB_z hz x.a x.s x.b h.fine.s
  have H2 : Hid (∀ W, Sq z w1 W s v p y q (b.writeB d x.a x.s x.b) b (b.writeD d x.a x.s x.b) d → Calls Try.prog 79 #[ptr y, .int .i64 x.a, .string x.s, .int .i64 x.b] W fun e w' => e = .returned (.int .i64 (b.writeE d x.a x.s x.b)) ∧ Sq z w1 w' s v p y q (b.writeB d x.a x.s x.b) (b.writeB d x.a x.s x.b) (b.writeD d x.a x.s x.b) (b.writeD d x.a x.s x.b)) := Lib.hid fun W hh => hh.right fun hr => rWrite15_any y q b d x.a x.s x.b W hr h.fine.s
  have HE := Lib.hid (fun W (hh : Sq z w1 W s v p y q (b.writeB d x.a x.s x.b) (b.writeB d x.a x.s x.b) (b.writeD d x.a x.s x.b) (b.writeD d x.a x.s x.b)) => HB.fin W v y _ _ hh (h.co.write hin x.a x.s x.b) (writeB_m b d x.a x.s x.b) (writeD_n b d x.a x.s x.b))
  unfold OpB.v at hw1 ⊢
  rw [hk] at HX hw1 ⊢
  obtain ⟨s0, s1, s2, s3, m0, m1, m2, m3, m4, m5⟩ := HX.out _ _ _ _ _ hd
  clear h HB hA hok hco hin
  clear hb
  generalize b.writeB d x.a x.s x.b = B1 at *
  generalize b.writeD d x.a x.s x.b = D1 at *
  generalize b.writeE d x.a x.s x.b = E at *
  go_enter Try.func41, Try.ntmps41
  go_wp2_with fail
  have hd := hd.to (Fr.refl [] _).drew
  have k0 := HX.out _ _ _ _ _ hd
  go_region_held3 (fun W => W.cell? ⟨s, 0, none⟩ = some (ptr v) ∧ W.cell? ⟨s, 1, none⟩ = some (ptr p) ∧ W.cell? ⟨s, 2, none⟩ = some (ptr y) ∧ W.cell? ⟨s, 3, none⟩ = some (ptr q) ∧ W.cell? ⟨w.heap.size, 0, none⟩ = some (.int .i64 x.on) ∧ W.cell? ⟨w.heap.size, 1, none⟩ = some (.int .i64 2) ∧ W.cell? ⟨w.heap.size, 2, none⟩ = some (.int .i64 x.a) ∧ W.cell? ⟨w.heap.size, 3, none⟩ = some (.int .i64 x.b) ∧ W.cell? ⟨w.heap.size, 4, none⟩ = some (.string x.s) ∧ W.cell? ⟨w.heap.size, 5, none⟩ = some (.slice cA cl cc))
    (first | exact kk | exact k0) (first
    | (go_at_call 79; have hq := H2.out _ hd; clear hd; refine hq.mono ?_; clear hq; rintro e w5 ⟨rfl, hd⟩; have kk := HX.out _ _ _ _ _ hd)
    | (go_at_call 25; have hq := H1.out _ hd; clear hd; refine hq.mono ?_; clear hq; rintro e w5 ⟨rfl, hd⟩; have kk := HX.out _ _ _ _ _ hd))
  go_wp2_with fail
  go_ret
  exact HE.out _ hd
set_option maxRecDepth 100000 in
set_option maxHeartbeats 1000000 in
theorem does3 {z : List Nat} {w : World} {s v p y q : Nat} {b : Bv} {d : Dk} {x : OpB} {cA : Option Addr} {cl cc : Nat} {f c k : Int} (h : SideA z w s v p y q b d x cA cl cc f c k) (hk : x.kind = 3) : Calls Try.prog 41 #[ptr s, .agg (x.v (.slice cA cl cc)), .int .i64 f, .int .i64 c, .int .i64 k] w (DoesQ z w s p q b d) := by
  obtain ⟨w1, hw1⟩ : ∃ w1, w.alloc (.cells (x.v (.slice cA cl cc)) 44) = w1 := ⟨_, rfl⟩
  have HB := h.boxed hw1
  have hd := HB.h
  have hA := (wf_le h.fine.a).2
  have hok := h.h.pr.y.ok
  have hco := h.co
  have hin := h.h.iv
  have HX := Lib.hid (fun W b1 b2 d1 d2 (hd : Sq z w1 W s v p y q b1 b2 d1 d2) => HB.all hd)
  have HZ := Lib.hid HB.zw
  have hb := (wf_le h.fine.b).2
  have H1 : Hid (∀ W, Sq z w1 W s v p y q b b d d → Calls Try.prog 26 #[ptr v] W fun e w' => e = .returned (.int .i64 (b.barrierE d)) ∧ Sq z w1 w' s v p y q b b (b.barrierD d) d) := Lib.hid fun W hh => hh.left fun zx hz => Barrier_z hz
  have H2 : Hid (∀ W, Sq z w1 W s v p y q b b (b.barrierD d) d → Calls Try.prog 80 #[ptr y] W fun e w' => e = .returned (.int .i64 (b.barrierE d)) ∧ Sq z w1 w' s v p y q b b (b.barrierD d) (b.barrierD d)) := Lib.hid fun W hh => hh.right fun hr => rBarrier_any y q b d W hr
  have HE := Lib.hid (fun W (hh : Sq z w1 W s v p y q b b (b.barrierD d) (b.barrierD d)) => HB.fin W v y _ _ hh (h.co.barrier hok) (by omega) (barrierD_n b d))
  unfold OpB.v at hw1 ⊢
  rw [hk] at HX hw1 ⊢
  obtain ⟨s0, s1, s2, s3, m0, m1, m2, m3, m4, m5⟩ := HX.out _ _ _ _ _ hd
  clear h HB hA hok hco hin
  clear hb
  generalize b.barrierD d = D1 at *
  generalize b.barrierE d = E at *
  go_enter Try.func41, Try.ntmps41
  go_wp2_with fail
  have hd := hd.to (Fr.refl [] _).drew
  have k0 := HX.out _ _ _ _ _ hd
  go_region_held3 (fun W => W.cell? ⟨s, 0, none⟩ = some (ptr v) ∧ W.cell? ⟨s, 1, none⟩ = some (ptr p) ∧ W.cell? ⟨s, 2, none⟩ = some (ptr y) ∧ W.cell? ⟨s, 3, none⟩ = some (ptr q) ∧ W.cell? ⟨w.heap.size, 0, none⟩ = some (.int .i64 x.on) ∧ W.cell? ⟨w.heap.size, 1, none⟩ = some (.int .i64 3) ∧ W.cell? ⟨w.heap.size, 2, none⟩ = some (.int .i64 x.a) ∧ W.cell? ⟨w.heap.size, 3, none⟩ = some (.int .i64 x.b) ∧ W.cell? ⟨w.heap.size, 4, none⟩ = some (.string x.s) ∧ W.cell? ⟨w.heap.size, 5, none⟩ = some (.slice cA cl cc))
    (first | exact kk | exact k0) (first
    | (go_at_call 80; have hq := H2.out _ hd; clear hd; refine hq.mono ?_; clear hq; rintro e w5 ⟨rfl, hd⟩; have kk := HX.out _ _ _ _ _ hd)
    | (go_at_call 26; have hq := H1.out _ hd; clear hd; refine hq.mono ?_; clear hq; rintro e w5 ⟨rfl, hd⟩; have kk := HX.out _ _ _ _ _ hd))
  go_wp2_with fail
  go_ret
  exact HE.out _ hd
set_option maxRecDepth 100000 in
set_option maxHeartbeats 1000000 in
theorem does4 {z : List Nat} {w : World} {s v p y q : Nat} {b : Bv} {d : Dk} {x : OpB} {cA : Option Addr} {cl cc : Nat} {f c k : Int} (h : SideA z w s v p y q b d x cA cl cc f c k) (hk : x.kind = 4) : Calls Try.prog 41 #[ptr s, .agg (x.v (.slice cA cl cc)), .int .i64 f, .int .i64 c, .int .i64 k] w (DoesQ z w s p q b d) := by
  obtain ⟨w1, hw1⟩ : ∃ w1, w.alloc (.cells (x.v (.slice cA cl cc)) 44) = w1 := ⟨_, rfl⟩
  have HB := h.boxed hw1
  have hd := HB.h
  have hA := (wf_le h.fine.a).2
  have hok := h.h.pr.y.ok
  have hco := h.co
  have hin := h.h.iv
  have HX := Lib.hid (fun W b1 b2 d1 d2 (hd : Sq z w1 W s v p y q b1 b2 d1 d2) => HB.all hd)
  have HZ := Lib.hid HB.zw
  have hb := (wf_le h.fine.b).2
  have H1 : Hid (∀ W, Sq z w1 W s v p y q b b d d → Calls Try.prog 81 #[ptr p, .int .i64 x.a, .slice cA cl cc] W fun e w' => e = .returned (.int .i64 (d.armE x.a)) ∧ Sq z w1 w' s v p y q b b (d.armS x.a x.ch) d) := Lib.hid fun W hh => hh.disk (fun g m ha => (Arm_any p g m d x.a cA cl cc x.ch W ha (HZ.out _ hh.fr) h.b8 hA).mono fun e w' ⟨he, hD, hf⟩ => ⟨he, .of_same hD hf⟩) (armS_n _ _ _)
  have H2 : Hid (∀ W, Sq z w1 W s v p y q b b (d.armS x.a x.ch) d → Calls Try.prog 82 #[ptr q, .int .i64 x.a, .slice cA cl cc] W fun e w' => e = .returned (.int .i64 (d.armE x.a)) ∧ Sq z w1 w' s v p y q b b (d.armS x.a x.ch) (d.armS x.a x.ch)) := Lib.hid fun W hh => hh.rdisk (fun hr => rArm_any q d x.a cA cl cc x.ch W hr (HZ.out _ hh.fr) (fun j y hj g o e => fun e2 => h.away j y hj g o e (by rw [e2]; exact h.qz)) h.b8 hA) (armS_n _ _ _)
  have HE := Lib.hid (fun W (hh : Sq z w1 W s v p y q b b (d.armS x.a x.ch) (d.armS x.a x.ch)) => HB.fin W v y _ _ hh (h.co.arm x.a x.ch) (by omega) (armS_n _ _ _))
  unfold OpB.v at hw1 ⊢
  rw [hk] at HX hw1 ⊢
  obtain ⟨s0, s1, s2, s3, m0, m1, m2, m3, m4, m5⟩ := HX.out _ _ _ _ _ hd
  clear h HB hA hok hco hin
  clear hb
  generalize d.armS x.a x.ch = D1 at *
  generalize d.armE x.a = E at *
  go_enter Try.func41, Try.ntmps41
  go_wp2_with fail
  have hd := hd.to (Fr.refl [] _).drew
  have k0 := HX.out _ _ _ _ _ hd
  go_region_held3 (fun W => W.cell? ⟨s, 0, none⟩ = some (ptr v) ∧ W.cell? ⟨s, 1, none⟩ = some (ptr p) ∧ W.cell? ⟨s, 2, none⟩ = some (ptr y) ∧ W.cell? ⟨s, 3, none⟩ = some (ptr q) ∧ W.cell? ⟨w.heap.size, 0, none⟩ = some (.int .i64 x.on) ∧ W.cell? ⟨w.heap.size, 1, none⟩ = some (.int .i64 4) ∧ W.cell? ⟨w.heap.size, 2, none⟩ = some (.int .i64 x.a) ∧ W.cell? ⟨w.heap.size, 3, none⟩ = some (.int .i64 x.b) ∧ W.cell? ⟨w.heap.size, 4, none⟩ = some (.string x.s) ∧ W.cell? ⟨w.heap.size, 5, none⟩ = some (.slice cA cl cc))
    (first | exact kk | exact k0) (first
    | (go_at_call 82; have hq := H2.out _ hd; clear hd; refine hq.mono ?_; clear hq; rintro e w5 ⟨rfl, hd⟩; have kk := HX.out _ _ _ _ _ hd)
    | (go_at_call 81; have hq := H1.out _ hd; clear hd; refine hq.mono ?_; clear hq; rintro e w5 ⟨rfl, hd⟩; have kk := HX.out _ _ _ _ _ hd))
  go_wp2_with fail
  go_ret
  exact HE.out _ hd
set_option maxRecDepth 100000 in
set_option maxHeartbeats 1000000 in
theorem doesN {z : List Nat} {w : World} {s v p y q : Nat} {b : Bv} {d : Dk} {x : OpB} {cA : Option Addr} {cl cc : Nat} {f c k : Int} (h : SideA z w s v p y q b d x cA cl cc f c k) (hk : x.kind ≠ 0 ∧ x.kind ≠ 1 ∧ x.kind ≠ 2 ∧ x.kind ≠ 3 ∧ x.kind ≠ 4 ∧ x.kind ≠ 5) : Calls Try.prog 41 #[ptr s, .agg (x.v (.slice cA cl cc)), .int .i64 f, .int .i64 c, .int .i64 k] w (DoesQ z w s p q b d) := by
  obtain ⟨w1, hw1⟩ : ∃ w1, w.alloc (.cells (x.v (.slice cA cl cc)) 44) = w1 := ⟨_, rfl⟩
  have HB := h.boxed hw1
  have hd := HB.h
  have hA := (wf_le h.fine.a).2
  have hok := h.h.pr.y.ok
  have hco := h.co
  have hin := h.h.iv
  have HX := Lib.hid (fun W b1 b2 d1 d2 (hd : Sq z w1 W s v p y q b1 b2 d1 d2) => HB.all hd)
  have HE := Lib.hid (fun W (hh : Sq z w1 W s v p y q b b d d) => HB.fin W v y _ _ hh h.co (by omega) rfl)
  unfold OpB.v at hw1 ⊢
  obtain ⟨s0, s1, s2, s3, m0, m1, m2, m3, m4, m5⟩ := HX.out _ _ _ _ _ hd
  clear h HB hA hok hco hin
  obtain ⟨n0, n1, n2, n3, n4, n5⟩ := hk
  go_enter Try.func41, Try.ntmps41
  go_wp2
  go_ret
  exact HE.out _ hd
end Go.Proofs.Ythmnloapjdalpaa

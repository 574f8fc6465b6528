/- BlockCaches: the walk. -/
import Derived.Test.YthmnloapjdalpaaL21
import Derived.Test.YthmnloapjdalpaaOpen4
namespace Go.Proofs.Ythmnloapjdalpaa
open Go.RowKit
set_option linter.unusedVariables false
set_option linter.unusedSimpArgs false
theorem newBE_zero {d : Dk} {f c k : Int} (h : newBE d f c k = 0) : newBE d f c 0 = 0 := by
  obtain ⟨h1, h2, h3, h4, h5, h6⟩ := newBE_ok h
  unfold newBE
  rw [if_neg (by omega)]
theorem newBE_150 {d : Dk} {f c k : Int} (h : newBE d f c k ≠ 0) : newBE d f c k = 150 := by
  unfold newBE at h ⊢
  split at h
  · rename_i hc; rw [if_pos hc]
  · exact absurd rfl h
/-- What a read tells, where nothing is dead. -/
theorem readV_form {b b' : Bv} {d : Dk} (h : Coh b d) (h' : Coh b' d) (hf : b'.first = b.first) (hc : b'.count = b.count) (hcl : d.Calm) (i : Int) :
    ∃ S N E, b.readV d i = .tuple #[.string S, .int .i64 N, .int .i64 E] ∧ b'.readV d i = .tuple #[.string S, .int .i64 N, .int .i64 E] ∧ ((askedE b d i = 0 ∧ E ≠ 151) ∨ (askedE b d i = 151 ∧ E = 151)) := by
  have hsame := h.readV h' hf hc i
  rcases asked_calm (b := b) hcl i with ha | ha
  · have key : b.readV d i = ParseR (d.sec (b.first + i.toNat)) := by
      unfold Bv.readV
      rw [if_neg (by omega)]
      cases hk : b.find i with
      | none => rfl
      | some k =>
        obtain ⟨m1, m2⟩ := find_mem hk
        obtain ⟨-, -, m3⟩ := h k m1
        simp only []
        rw [← m3, m2]
    exact ⟨_, _, _, key, hsame.symm.trans key, .inl ⟨ha, parseE_not _⟩⟩
  · have key : b.readV d i = .tuple #[.string ⟨#[]⟩, .int .i64 0, .int .i64 151] := by
      unfold Bv.readV
      rw [if_pos (by omega), ha]
    exact ⟨_, _, _, key, hsame.symm.trans key, .inr ⟨ha, rfl⟩⟩
/-- What stands at the start of a round. -/
def CaI (W0 w : World) (v1 p1 v2 p2 : Nat) (i r : Nat) : Prop := ∃ b1 b2 d, Duo W0 w v1 p1 b1 d v2 p2 b2 d ∧ d.Calm ∧ Coh b1 d ∧ Bare b2 ∧ b2.first = b1.first ∧ b2.count = b1.count ∧ b2.misses = r ∧ b1.misses ≤ r ∧ r ≤ i
theorem CaI.start {W0 w : World} {v1 p1 v2 p2 : Nat} {d : Dk} {f c k : Int} (h : Duo W0 w v1 p1 (newB f c k) d v2 p2 (newB f c 0) d) (hc : d.Calm) : CaI W0 w v1 p1 v2 p2 0 0 :=
  ⟨_, _, d, h, hc, Coh.nil rfl d, ⟨rfl, rfl⟩, rfl, rfl, rfl, Nat.le_refl _, Nat.le_refl _⟩
theorem CaI.read {W0 w : World} {v1 p1 v2 p2 i r : Nat} {b1 b2 : Bv} {d : Dk} {a : Int} (h : Duo W0 w v1 p1 (b1.readB d a) d v2 p2 (b2.readB d a) d) (hc : d.Calm) (h1 : Coh b1 d) (h2 : Bare b2) (e1 : b2.first = b1.first) (e2 : b2.count = b1.count) (e3 : b2.misses = r) (e4 : b1.misses ≤ r) (e5 : r ≤ i) :
    CaI W0 w v1 p1 v2 p2 (i + 1) (if askedE b1 d a = 0 then r + 1 else r) := by
  have s1 := readB_same b1 d a
  have s2 := readB_same b2 d a
  have ha2 : askedE b2 d a = askedE b1 d a := by unfold askedE; rw [e2]
  refine ⟨_, _, d, h, hc, h1.readB a, h2.readB d a, by rw [s1.1, s2.1]; exact e1, by rw [s1.2.1, s2.2.1]; exact e2, ?_, ?_, ?_⟩
  · by_cases ha : askedE b1 d a = 0
    · rw [if_pos ha, h2.misses d a (by rw [ha2]; exact ha), e3]
    · rw [if_neg ha, readB_bad (by rw [ha2]; exact ha), e3]
  · by_cases ha : askedE b1 d a = 0
    · rw [if_pos ha]; have := misses_le b1 d a ha; omega
    · rw [if_neg ha, readB_bad ha]; exact e4
  · split <;> omega
theorem CaI.wrote {W0 w : World} {v1 p1 v2 p2 i r : Nat} {b1 b2 : Bv} {d : Dk} {a m : Int} {t : ByteArray} (h : Duo W0 w v1 p1 (b1.writeB d a t m) (b1.writeD d a t m) v2 p2 (b2.writeB d a t m) (b2.writeD d a t m)) (hin : b1.first + b1.count ≤ d.n) (hc : d.Calm) (h1 : Coh b1 d) (h2 : Bare b2) (e1 : b2.first = b1.first) (e2 : b2.count = b1.count) (e3 : b2.misses = r) (e4 : b1.misses ≤ r) (e5 : r ≤ i) :
    CaI W0 w v1 p1 v2 p2 (i + 1) r := by
  have s1 := writeB_same b1 d a t m
  have s2 := writeB_same b2 d a t m
  rw [(writeE_same e1 e2 d a t m).2] at h
  exact ⟨_, _, _, h, (writeD_out hc a t m).2, h1.write hc hin a t m, h2.writeB d a t m, by rw [s1.1, s2.1]; exact e1, by rw [s1.2.1, s2.2.1]; exact e2, by rw [s2.2.2]; exact e3, by rw [s1.2.2]; exact e4, by omega⟩
theorem CaI.barred {W0 w : World} {v1 p1 v2 p2 i r : Nat} {b1 b2 : Bv} {d : Dk} (h : Duo W0 w v1 p1 b1 (b1.barrierD d) v2 p2 b2 (b2.barrierD d)) (hok : d.Ok) (hc : d.Calm) (h1 : Coh b1 d) (h2 : Bare b2) (e1 : b2.first = b1.first) (e2 : b2.count = b1.count) (e3 : b2.misses = r) (e4 : b1.misses ≤ r) (e5 : r ≤ i) :
    CaI W0 w v1 p1 v2 p2 (i + 1) r := by
  rw [(barrier_same e1 e2 d).2] at h
  exact ⟨_, _, _, h, (barrierD_out hc).2, h1.barrier hok hc, h2, e1, e2, e3, e4, by omega⟩
theorem CaI.skip {W0 w : World} {v1 p1 v2 p2 i r : Nat} (h : CaI W0 w v1 p1 v2 p2 i r) : CaI W0 w v1 p1 v2 p2 (i + 1) r := by
  obtain ⟨b1, b2, d, h, h1, h2, h3, h4, h5, h6, h7, h8⟩ := h
  exact ⟨b1, b2, d, h, h1, h2, h3, h4, h5, h6, h7, by omega⟩
theorem CaI.to {W0 w w' : World} {v1 p1 v2 p2 i r : Nat} (h : CaI W0 w v1 p1 v2 p2 i r) (hf : Fr [] w w') : CaI W0 w' v1 p1 v2 p2 i r := by
  obtain ⟨b1, b2, d, h, h1⟩ := h
  exact ⟨b1, b2, d, h.to hf, h1⟩
set_option maxRecDepth 100000 in
set_option maxHeartbeats 8000000 in
theorem caches_walk (t : ByteArray) (w : World) (f c k : Int) (A : Option Addr) (n cap : Nat) (ops : Nat → OpB) (ht : t.size ≤ maxLen) (ho : OpsB w (.slice A n cap) n ops) (hf63 : f ≤ 9223372036854775807) :
    Calls Try.prog 5 #[.string t, .agg #[.int .i64 f, .int .i64 c, .int .i64 k], .slice A n cap] w fun e w' => e = .returned (.bool true) ∧ Fr [] w w' := by
  have hf0 : Fr [] w (w.alloc (.cells #[.int .i64 f, .int .i64 c, .int .i64 k] 34)) := (Fr.refl [] w).alloc _
  have hb0 := Blk.new w 34 #[.int .i64 f, .int .i64 c, .int .i64 k]
  have Hf0 := Lib.hid hf0
  have HB := Lib.hid (fun W (hf : Fr [] (w.alloc (.cells #[.int .i64 f, .int .i64 c, .int .i64 k] 34)) W) => (show W.cell? ⟨w.heap.size, 0, none⟩ = some (.int .i64 f) ∧ W.cell? ⟨w.heap.size, 1, none⟩ = some (.int .i64 c) ∧ W.cell? ⟨w.heap.size, 2, none⟩ = some (.int .i64 k) from ⟨hf.cell_some (hb0.cell 0) (by simp), hf.cell_some (hb0.cell 1) (by simp), hf.cell_some (hb0.cell 2) (by simp)⟩))
  have HO := Lib.hid (ho.fr hf0)
  have hnm := ho.1
  have HFx := Lib.hid fixed15_any
  by_cases h0 : newE t = 0
  · have HN := Lib.hid (fun W => Dd.new t W h0)
    have hcal := newD_calm t
    obtain ⟨D0, hD0⟩ : ∃ D0, newD t = D0 := ⟨_, rfl⟩
    rw [hD0] at HN hcal
    have Hcal := Lib.hid hcal
    generalize hW0 : w.alloc (.cells #[.int .i64 f, .int .i64 c, .int .i64 k] 34) = W0 at *
    by_cases hE : newBE D0 f c k = 0
    · have HX := Lib.hid (fun W p (h : Dd W0 W p D0) => NewB_new h f c k hE)
      have HY := Lib.hid (fun w1 W p (h : Dd w1 W p D0) => NewB_new h f c 0 (newBE_zero hE))
      clear hf0 hb0 ho ht h0 hD0 hcal hE
      go_enter Try.func5, Try.ntmps5
      go_wp2_with (first
        | (go_at_call 22; have hx := Hd1.out.fr; refine (HN.out _).mono ?_; rintro e w2 ⟨p2, rfl, hd2⟩; obtain ⟨b0, b1, b2⟩ := HB.out _ (hx.trans hd2.fr); have Hd2 := Lib.hid hd2; clear hd2 hx)
        | (go_at_call 22; refine (HN.out W0).mono ?_; rintro e w1 ⟨p1, rfl, hd1⟩; have Hd1 := Lib.hid hd1; clear hd1)
        | (go_at_call 23; have hq := HY.out _ _ _ (Hd2.out.to Hv1.out.2.2); refine hq.mono ?_; clear b0 b1 b2 hq; rintro e w4 ⟨v2, rfl, hv2, q2, f4⟩; have Hst := Lib.hid (CaI.start (Duo.made Hd1.out Hd2.out Hv1.out.2.2 Hv1.out.1.dev Hv1.out.2.1 f4 hv2.dev q2 Hv1.out.1.in_ hv2.in_) Hcal.out); clear hv2 q2 f4)
        | (go_at_call 23; have hq := HX.out _ _ (Hd1.out.to Hd2.out.fr); refine hq.mono ?_; clear b0 b1 b2 hq; rintro e w3 ⟨v1, rfl, hv1, q1, f3⟩; obtain ⟨b0, b1, b2⟩ := HB.out _ hv1.dd.fr; have Hv1 := Lib.hid (And.intro hv1 (And.intro q1 f3)); clear hv1 q1 f3))
      clear Hd1 Hd2 Hv1 HN HX HY
      simp only [maxLen] at hnm
      go_loopg [15, 16] n (fun gg vr vi wr => ∃ (i r : Nat), i + gg = n ∧ vi = .int .i64 (i : Int) ∧ vr = .int .i64 (r : Int) ∧ CaI W0 wr v1 p1 v2 p2 i r)
      case atStart => exact ⟨0, 0, by omega, rfl, rfl, Hst.out⟩
      case round =>
        obtain ⟨i, r, hi, rfl, rfl, hI⟩ := hrel
        have Hi := Lib.hid hi
        have HI := Lib.hid hI
        obtain ⟨b1, b2, d, hD, hc, hco, hba, e1, e2, e3, e4, e5⟩ := hI
        have HD := Lib.hid hD
        have HF := Lib.hid (And.intro hc (And.intro hco (And.intro hba (And.intro e1 (And.intro e2 (And.intro e3 (And.intro e4 e5)))))))
        clear hi hD
        by_cases hlti : i < n
        · have hlti' : (i : Int) < (n : Int) := by omega
          have hi0 : (0 : Int) ≤ (i : Int) := by omega
          have hwi : IntKind.i64.wrap ((i : Int) + 1) = (i : Int) + 1 := IntWalk.i64_in _ (by omega)
          have hwr : IntKind.i64.wrap ((r : Int) + 1) = (r : Int) + 1 := IntWalk.i64_in _ (by omega)
          obtain ⟨hF, bb, off, cv, rfl, hat⟩ := HO.out.at_ hlti
          generalize hx : ops i = x at *
          obtain ⟨cA, cap1, hcv, -⟩ := hat.z
          generalize x.ch.length = cl at hcv
          subst hcv
          have HC := Lib.hid (fun W (hf : Fr [] W0 W) => (hat.fr hf).six)
          obtain ⟨c0, c1, c2, c3, c4, c5⟩ := HC.out _ HD.out.fr
          have hd := HD.out.to ((Fr.refl [] wr).alloc (.cells #[.int .i64 x.on, .int .i64 x.kind, .int .i64 x.a, .int .i64 x.b, .string x.s, .slice cA cl cap1] 44))
          have Hbx := Lib.hid (Blk.new wr 44 #[.int .i64 x.on, .int .i64 x.kind, .int .i64 x.a, .int .i64 x.b, .string x.s, .slice cA cl cap1])
          have HBx := Lib.hid (fun W (h : Blk W wr.heap.size 44 #[.int .i64 x.on, .int .i64 x.kind, .int .i64 x.a, .int .i64 x.b, .string x.s, .slice cA cl cap1]) => (show W.cell? ⟨wr.heap.size, 0, none⟩ = some (.int .i64 x.on) ∧ W.cell? ⟨wr.heap.size, 1, none⟩ = some (.int .i64 x.kind) ∧ W.cell? ⟨wr.heap.size, 2, none⟩ = some (.int .i64 x.a) ∧ W.cell? ⟨wr.heap.size, 3, none⟩ = some (.int .i64 x.b) ∧ W.cell? ⟨wr.heap.size, 4, none⟩ = some (.string x.s) ∧ W.cell? ⟨wr.heap.size, 5, none⟩ = some (.slice cA cl cap1) from ⟨h.cell 0, h.cell 1, h.cell 2, h.cell 3, h.cell 4, h.cell 5⟩))
          obtain ⟨WX, hWX⟩ : ∃ WX, wr.alloc (.cells #[.int .i64 x.on, .int .i64 x.kind, .int .i64 x.a, .int .i64 x.b, .string x.s, .slice cA cl cap1] 44) = WX := ⟨_, rfl⟩
          rw [hWX] at Hbx hd
          clear hat hx
          by_cases hk0 : x.kind = 0
          · have hm1 : b1.misses < 9223372036854775807 := by omega
            have hm2 : b2.misses < 9223372036854775807 := by omega
            obtain ⟨S, N, E, r1, r2, hE⟩ := readV_form hco (Coh.nil hba.l d) e1 e2 hc x.a
            have HR1 := Lib.hid (fun W (h : Duo W0 W v1 p1 b1 d v2 p2 b2 d) => h.left fun z hz => ReadB_z hz x.a hm1)
            have HR2 := Lib.hid (fun W (h : Duo W0 W v1 p1 (b1.readB d x.a) d v2 p2 b2 d) => h.right fun z hz => ReadB_z hz x.a hm2)
            rw [r1] at HR1
            rw [r2] at HR2
            have HEnd := Lib.hid (fun W (h : Duo W0 W v1 p1 (b1.readB d x.a) d v2 p2 (b2.readB d x.a) d) => CaI.read h hc hco hba e1 e2 e3 e4 e5)
            rw [hk0] at c1 HBx Hbx hWX
            generalize b1.readB d x.a = B1 at *
            generalize b2.readB d x.a = B2 at *
            clear r1 r2 hc hco hba e1 e2 e3 e4 e5 hm1 hm2
            obtain ⟨m0, m1, m2, m3, m4, m5⟩ := HBx.out _ Hbx.out
            rcases hE with ⟨ha, hE⟩ | ⟨ha, rfl⟩
            · rw [ha, if_pos rfl] at HEnd
              clear ha
              go_wp2_with (first
                | (go_at_call 24; have hq := HR2.out _ hd; clear hd; refine hq.mono ?_; clear hq; rintro e w8 ⟨rfl, hd, hk⟩)
                | (go_at_call 24; have hq := HR1.out _ hd; clear hd; refine hq.mono ?_; clear hq; rintro e w8 ⟨rfl, hd, hk⟩; obtain ⟨k0, k1, k2, k3, k4, k5⟩ := HBx.out _ (hk _ _ Hbx.out); clear hk))
              go_roundg (n - (i + 1))
              case measure => have := Hi.out; omega
              case rel => exact ⟨i + 1, r + 1, by have := Hi.out; omega, by go_num, by go_num, HEnd.out _ hd⟩
            · rw [ha, if_neg (by omega)] at HEnd
              clear ha
              go_wp2_with (first
                | (go_at_call 24; have hq := HR2.out _ hd; clear hd; refine hq.mono ?_; clear hq; rintro e w8 ⟨rfl, hd, hk⟩)
                | (go_at_call 24; have hq := HR1.out _ hd; clear hd; refine hq.mono ?_; clear hq; rintro e w8 ⟨rfl, hd, hk⟩; obtain ⟨k0, k1, k2, k3, k4, k5⟩ := HBx.out _ (hk _ _ Hbx.out); clear hk))
              go_roundg (n - (i + 1))
              case measure => have := Hi.out; omega
              case rel => exact ⟨i + 1, r, by have := Hi.out; omega, by go_num, rfl, HEnd.out _ hd⟩
          by_cases hk2 : x.kind = 2
          · have HR1 := Lib.hid (fun W (h : Duo W0 W v1 p1 b1 d v2 p2 b2 d) => h.left fun z hz => WriteB_z hz x.a x.s x.b hF.s)
            have HR2 := Lib.hid (fun W (h : Duo W0 W v1 p1 (b1.writeB d x.a x.s x.b) (b1.writeD d x.a x.s x.b) v2 p2 b2 d) => h.right fun z hz => WriteB_z hz x.a x.s x.b hF.s)
            rw [(writeE_same e1 e2 d x.a x.s x.b).1] at HR2
            have HEnd := Lib.hid (fun W (h : Duo W0 W v1 p1 (b1.writeB d x.a x.s x.b) (b1.writeD d x.a x.s x.b) v2 p2 (b2.writeB d x.a x.s x.b) (b2.writeD d x.a x.s x.b)) => CaI.wrote h HD.out.in1 hc hco hba e1 e2 e3 e4 e5)
            rw [hk2] at c1 HBx Hbx hWX
            generalize b1.writeB d x.a x.s x.b = B1 at *
            generalize b2.writeB d x.a x.s x.b = B2 at *
            generalize b2.writeD d x.a x.s x.b = D2 at *
            generalize b1.writeE d x.a x.s x.b = E at *
            generalize hD1 : b1.writeD d x.a x.s x.b = D1 at *
            clear hc hco hba e1 e2 e3 e4 e5 hD1
            have HM0 := Lib.hid (HBx.out _ (Hbx.out.fr (Fr.refl [] _).drew (by simp)))
            obtain ⟨m0, m1, m2, m3, m4, m5⟩ := HBx.out _ Hbx.out
            go_wp2_with fail
            have hd := hd.to (Fr.refl [] _).drew
            go_region_held3 (fun W => W.cell? ⟨wr.heap.size, 0, none⟩ = some (.int .i64 x.on) ∧ W.cell? ⟨wr.heap.size, 1, none⟩ = some (.int .i64 2) ∧ W.cell? ⟨wr.heap.size, 2, none⟩ = some (.int .i64 x.a) ∧ W.cell? ⟨wr.heap.size, 3, none⟩ = some (.int .i64 x.b) ∧ W.cell? ⟨wr.heap.size, 4, none⟩ = some (.string x.s) ∧ W.cell? ⟨wr.heap.size, 5, none⟩ = some (.slice cA cl cap1))
              (first | exact HM0.out | exact kk | exact ll) (first
              | (go_at_call 25; have hq := HR2.out _ hd; clear hd; refine hq.mono ?_; clear hq; rintro e w9 ⟨rfl, hd, hk'⟩; have ll := HBx.out _ (hk' _ _ hb8.out))
              | (go_at_call 25; have hq := HR1.out _ hd; clear hd; refine hq.mono ?_; clear hq; rintro e w8 ⟨rfl, hd, hk'⟩; have hb8 := Lib.hid (hk' _ _ (Hbx.out.fr (Fr.refl [] _).drew (by simp))); have kk := HBx.out _ hb8.out))
            go_wp2_with fail
            go_roundg (n - (i + 1))
            case measure => have := Hi.out; omega
            case rel => exact ⟨i + 1, r, by have := Hi.out; omega, by go_num, rfl, HEnd.out _ hd⟩
          by_cases hk3 : x.kind = 3
          · have HR1 := Lib.hid (fun W (h : Duo W0 W v1 p1 b1 d v2 p2 b2 d) => h.left fun z hz => Barrier_z hz)
            have HR2 := Lib.hid (fun W (h : Duo W0 W v1 p1 b1 (b1.barrierD d) v2 p2 b2 d) => h.right fun z hz => Barrier_z hz)
            rw [(barrier_same e1 e2 d).1] at HR2
            have HEnd := Lib.hid (fun W (h : Duo W0 W v1 p1 b1 (b1.barrierD d) v2 p2 b2 (b2.barrierD d)) => CaI.barred h HD.out.ok1 hc hco hba e1 e2 e3 e4 e5)
            rw [hk3] at c1 HBx Hbx hWX
            generalize b2.barrierD d = D2 at *
            generalize b1.barrierE d = E at *
            generalize hD1 : b1.barrierD d = D1 at *
            clear hc hco hba e1 e2 e3 e4 e5 hD1
            obtain ⟨m0, m1, m2, m3, m4, m5⟩ := HBx.out _ Hbx.out
            go_wp2_with (first
              | (go_at_call 26; have hq := HR2.out _ hd; clear hd; refine hq.mono ?_; clear hq; rintro e w9 ⟨rfl, hd, hk'⟩)
              | (go_at_call 26; have hq := HR1.out _ hd; clear hd; refine hq.mono ?_; clear hq; rintro e w8 ⟨rfl, hd, hk'⟩))
            go_roundg (n - (i + 1))
            case measure => have := Hi.out; omega
            case rel => exact ⟨i + 1, r, by have := Hi.out; omega, by go_num, rfl, HEnd.out _ hd⟩
          · obtain ⟨m0, m1, m2, m3, m4, m5⟩ := HBx.out _ Hbx.out
            have HEnd := Lib.hid (fun W (h : Fr [] wr W) => (HI.out.to h).skip)
            clear hc hco hba e1 e2 e3 e4 e5
            go_wp2_with fail
            go_roundg (n - (i + 1))
            case measure => have := Hi.out; omega
            case rel => exact ⟨i + 1, r, by have := Hi.out; omega, by go_num, rfl, HEnd.out _ (by rw [← hWX]; exact (Fr.refl [] wr).alloc _)⟩
        · have hlti' : ¬ (i : Int) < (n : Int) := by omega
          have HM1 := Lib.hid (Misses_any v1 p1 b1 wr HD.out.dev1)
          have HM2 := Lib.hid (Misses_any v2 p2 b2 wr HD.out.dev2)
          rw [e3] at HM2
          have hle : ((b1.misses : Nat) : Int) ≤ (r : Int) := by omega
          generalize b1.misses = ms at *
          have hd := HD.out
          have HI1 := Lib.hid (fun W (h : Duo W0 W v1 p1 b1 d v2 p2 b2 d) => h.image1)
          have HI2 := Lib.hid (fun W (h : Duo W0 W v1 p1 b1 d v2 p2 b2 d) => h.image2)
          generalize d.image = IM at *
          clear hc hco hba e1 e2 e3 e4 e5
          go_wp2_with (first
            | (go_at_call 27; refine HM1.out.mono ?_; rintro e w8 ⟨rfl, rfl⟩)
            | (go_at_call 27; refine HM2.out.mono ?_; rintro e w8 ⟨rfl, rfl⟩)
            | (go_at_call 28; have hq := HI2.out _ hd8; refine hq.mono ?_; rintro e w9 ⟨rfl, hd9⟩; clear hq)
            | (go_at_call 28; have hq := HI1.out _ hd; clear hd; refine hq.mono ?_; rintro e w8 ⟨rfl, hd8⟩; clear hq)
            | (go_at_call 19; refine (HFx.out _).mono ?_; rintro e w10 ⟨rfl, hf10⟩))
          go_ret
          exact ⟨rfl, (Hf0.out.trans hd9.fr).trans hf10⟩
    · have hE1 := newBE_150 hE
      have HX := Lib.hid (fun W p (h : Dd W0 W p D0) => NewB_bad h f c k hf63 hE)
      by_cases hE2 : newBE D0 f c 0 = 0
      · have HY := Lib.hid (fun w1 W p (h : Dd w1 W p D0) => NewB_new h f c 0 hE2)
        clear hf0 hb0 ho ht h0 hD0 hcal hE
        go_enter Try.func5, Try.ntmps5
        go_wp2_with (first
          | (go_at_call 22; have hx := Hd1.out.fr; refine (HN.out _).mono ?_; rintro e w2 ⟨p2, rfl, hd2⟩; obtain ⟨b0, b1, b2⟩ := HB.out _ (hx.trans hd2.fr); have Hd2 := Lib.hid hd2; clear hd2 hx)
          | (go_at_call 22; refine (HN.out W0).mono ?_; rintro e w1 ⟨p1, rfl, hd1⟩; have Hd1 := Lib.hid hd1; clear hd1)
          | (go_at_call 23; have hq := HX.out _ _ (Hd1.out.to Hd2.out.fr); clear HX; refine hq.mono ?_; clear hq; rintro e w3 ⟨rfl, rfl⟩)
          | (go_at_call 23; have hq := HY.out _ _ _ Hd2.out; refine hq.mono ?_; clear hq; rintro e w4 ⟨v2, rfl, hv2, q2, f4⟩; have hf9 := (Hd1.out.fr.trans Hd2.out.fr).trans f4; clear hv2 q2 f4)
          | (go_at_call 19; refine (HFx.out _).mono ?_; rintro e w10 ⟨rfl, hf10⟩))
        go_ret
        exact ⟨rfl, (Hf0.out.trans hf9).trans hf10⟩
      · have HY := Lib.hid (fun w1 W p (h : Dd w1 W p D0) => NewB_bad h f c 0 hf63 hE2)
        clear hf0 hb0 ho ht h0 hD0 hcal hE
        go_enter Try.func5, Try.ntmps5
        go_wp2_with (first
          | (go_at_call 22; have hx := Hd1.out.fr; refine (HN.out _).mono ?_; rintro e w2 ⟨p2, rfl, hd2⟩; obtain ⟨b0, b1, b2⟩ := HB.out _ (hx.trans hd2.fr); have Hd2 := Lib.hid hd2; clear hd2 hx)
          | (go_at_call 22; refine (HN.out W0).mono ?_; rintro e w1 ⟨p1, rfl, hd1⟩; have Hd1 := Lib.hid hd1; clear hd1)
          | (go_at_call 23; have hq := HX.out _ _ (Hd1.out.to Hd2.out.fr); clear HX; refine hq.mono ?_; clear hq; rintro e w3 ⟨rfl, rfl⟩)
          | (go_at_call 23; have hq := HY.out _ _ _ Hd2.out; refine hq.mono ?_; clear hq; rintro e w4 ⟨rfl, rfl⟩)
          | (go_at_call 19; refine (HFx.out _).mono ?_; rintro e w10 ⟨rfl, hf10⟩))
        go_ret
        exact ⟨rfl, (Hf0.out.trans (Hd1.out.fr.trans Hd2.out.fr)).trans hf10⟩
  · have HN := Lib.hid (fun W => new_any t W ht h0)
    clear hf0 hb0 ho ht h0
    go_enter Try.func5, Try.ntmps5
    go_wp2_with (first
      | (go_at_call 22; refine (HN.out _).mono ?_; rintro e w1 ⟨rfl, rfl⟩)
      | (go_at_call 19; refine (HFx.out _).mono ?_; rintro e w3 ⟨rfl, hf3⟩))
    go_ret
    exact ⟨rfl, Hf0.out.trans hf3⟩
end Go.Proofs.Ythmnloapjdalpaa

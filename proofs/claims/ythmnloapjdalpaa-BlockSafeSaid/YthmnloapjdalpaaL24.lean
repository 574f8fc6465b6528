/- BlockSafe: the walk. -/
import Derived.Test.YthmnloapjdalpaaL23
namespace Go.Proofs.Ythmnloapjdalpaa
open Go.RowKit
set_option linter.unusedVariables false
set_option linter.unusedSimpArgs false
set_option maxRecDepth 100000 in
set_option maxHeartbeats 4000000 in
theorem safe_walk (t : ByteArray) (w : World) (f c k : Int) (A : Option Addr) (n cap : Nat) (ops : Nat → OpB) (A2 : Option Addr) (n2 cap2 : Nat) (l : List Int) (ht : t.size ≤ maxLen) (ho : OpsB w (.slice A n cap) n ops) (hz : Zw w (.slice A2 n2 cap2) l) (hf63 : f ≤ 9223372036854775807) :
    Calls Try.prog 8 #[.string t, .agg #[.int .i64 f, .int .i64 c, .int .i64 k], .agg #[.slice A n cap, .slice A2 n2 cap2]] w fun e w' => e = .returned (.bool true) ∧ Fr [] w w' := by
  obtain ⟨W0, hW0⟩ : ∃ W0, (w.alloc (.cells #[.int .i64 f, .int .i64 c, .int .i64 k] 34)).alloc (.cells #[.slice A n cap, .slice A2 n2 cap2] 59) = W0 := ⟨_, rfl⟩
  have hfa : Fr [] (w.alloc (.cells #[.int .i64 f, .int .i64 c, .int .i64 k] 34)) W0 := by rw [← hW0]; exact (Fr.refl [] _).alloc _
  have hf0 : Fr [] w W0 := ((Fr.refl [] w).alloc _).trans hfa
  have hb0 : Blk W0 w.heap.size 34 #[.int .i64 f, .int .i64 c, .int .i64 k] := (Blk.new w 34 #[.int .i64 f, .int .i64 c, .int .i64 k]).fr hfa (by simp)
  have hb1 : Blk W0 (w.heap.size + 1) 59 #[.slice A n cap, .slice A2 n2 cap2] := by rw [← hW0]; exact Blk.new' (by simp)
  have Hf0 := Lib.hid hf0
  have HB := Lib.hid (fun W (hf : Fr [] W0 W) => (show (W.cell? ⟨w.heap.size, 0, none⟩ = some (.int .i64 f) ∧ W.cell? ⟨w.heap.size, 1, none⟩ = some (.int .i64 c) ∧ W.cell? ⟨w.heap.size, 2, none⟩ = some (.int .i64 k)) ∧ W.cell? ⟨w.heap.size + 1, 0, none⟩ = some (.slice A n cap) ∧ W.cell? ⟨w.heap.size + 1, 1, none⟩ = some (.slice A2 n2 cap2) from ⟨⟨hf.cell_some (hb0.cell 0) (by simp), hf.cell_some (hb0.cell 1) (by simp), hf.cell_some (hb0.cell 2) (by simp)⟩, hf.cell_some (hb1.cell 0) (by simp), hf.cell_some (hb1.cell 1) (by simp)⟩))
  have HO := Lib.hid (ho.fr hf0)
  have hnm := ho.1
  have HFx := Lib.hid fixed15_any
  by_cases h0 : newE t = 0
  · have HN := Lib.hid (fun W => Dd.new t W h0)
    have hcal := newD_calm t
    have hnn := (newD_ok h0).n2
    have hts := newD_size h0
    have HCr := Lib.hid (fun W v p F C N (h : SaB W0 W v p F C N) => h.crash (hz.fr hf0 (NoZ.nil _)))
    obtain ⟨D0, hD0⟩ : ∃ D0, newD t = D0 := ⟨_, rfl⟩
    rw [hD0] at HN hcal hnn hts
    have Hcal := Lib.hid hcal
    by_cases hE : newBE D0 f c k = 0
    · obtain ⟨e1, e2, e3, e4, e5, e6⟩ := newBE_ok hE
      have HX := Lib.hid (fun W p (h : Dd W0 W p D0) => NewB_ok h f c k hE)
      obtain ⟨N, hN⟩ : ∃ N, D0.n = N := ⟨_, rfl⟩
      obtain ⟨F, hF⟩ : ∃ F : Nat, f = (F : Int) := ⟨f.toNat, by omega⟩
      obtain ⟨C, hC⟩ : ∃ C : Nat, c = (C : Int) := ⟨c.toNat, by omega⟩
      have HSt := Lib.hid (fun W p v (h : Dv W0 W v p (newB f c k) D0) => SaI.start (F := F) (C := C) (N := N) h Hcal.out hF hC hN)
      rw [hN] at hnn hts e3 e4
      subst hF
      subst hC
      have q1 : (128 * (N : Int)).tdiv 128 = N := by rw [Int.tdiv_eq_ediv_of_nonneg (by omega)]; omega
      have hwd : IntKind.i64.wrap ((N : Int) - (F : Int)) = (N : Int) - (F : Int) := IntWalk.i64_in _ (by omega)
      have HWr := Lib.hid (fun W p v (h : SaI W0 W v p F C N) (a : Int) (s : ByteArray) (m : Int) (hs : s.size ≤ maxLen) => h.write a s m hs)
      have HBa := Lib.hid (fun W p v (h : SaI W0 W v p F C N) => h.barrier)
      have HRv := Lib.hid (fun W p v (h : SaX W0 W v p F C N) => h.revive)
      have HNw := Lib.hid (fun W p v (h : SaI W0 W v p F C N) => h.new (by omega) (by omega))
      have hCm : C ≤ 4096 := by omega
      have g1 : decide ((F : Int) < 0) = false := by rw [decide_eq_false_iff_not]; exact e1
      have g2 : decide ((C : Int) < 1) = false := by rw [decide_eq_false_iff_not]; exact e2
      have g3 : decide (N < F) = false := by rw [decide_eq_false_iff_not]; omega
      have g4 : decide ((N : Int) - (F : Int) < (C : Int)) = false := by rw [decide_eq_false_iff_not]; exact e4
      clear e1 e2 e3 e4
      clear hf0 hb0 hb1 hfa ho ht h0 hD0 hcal hE hN hz hf63 e5 e6
      simp only [maxLen] at hnm
      go_enter Try.func8, Try.ntmps8
      go_wp2_with (first
        | (go_at_call 22; refine (HN.out _).mono ?_; rintro e w1 ⟨p, rfl, hd⟩; obtain ⟨⟨b0, b1, b2⟩, b3, b4⟩ := HB.out _ hd.fr; have Hd := Lib.hid hd; clear hd)
        | (go_at_call 23; have hq := HX.out _ _ Hd.out; clear HX; refine hq.mono ?_; clear b0 b1 b2 b3 b4 hq; rintro e w3 ⟨v, rfl, hv⟩; have Hs := Lib.hid (HSt.out _ _ _ hv); obtain ⟨⟨b0, b1, b2⟩, b3, b4⟩ := HB.out _ hv.fr; clear hv))
      clear Hd HN HSt
      go_loopg [11] n (fun gg vi wr => ∃ (i : Nat), i + gg = n ∧ vi = .int .i64 (i : Int) ∧ SaI W0 wr v p F C N)
      case atStart => exact ⟨0, by omega, rfl, Hs.out⟩
      case round =>
        obtain ⟨i, hi, rfl, hs⟩ := hrel
        have Hi := Lib.hid hi
        have Hs' := Lib.hid hs
        clear hi b0 b1 b2 b3 b4
        by_cases hlti : i < n
        · have hlti' : (i : Int) < (n : Int) := by omega
          have hi0 : (0 : Int) ≤ (i : Int) := by omega
          have hwi : IntKind.i64.wrap ((i : Int) + 1) = (i : Int) + 1 := IntWalk.i64_in _ (by omega)
          obtain ⟨hF, bb, off, cv, rfl, hat⟩ := HO.out.at_ hlti
          generalize hx : ops i = x at *
          have HC := Lib.hid (fun W (hf : Fr [] W0 W) => (show _ ∧ _ from ⟨(HB.out W hf).2.1, (hat.fr hf).six⟩))
          obtain ⟨d0, c0, c1, c2, c3, c4, c5⟩ := HC.out _ hs.fr
          have k0 := HC.out _ hs.fr
          clear hat hx
          by_cases hk2 : x.kind = 2
          · rw [hk2] at c1 k0 HC
            clear hs
            go_wp2_with fail
            have hs := Hs'.out.to (Fr.refl [] _).drew
            have hq0 := HWr.out _ _ _ hs x.a x.s x.b hF.s
            have Hq := Lib.hid hq0
            clear hs hq0
            go_region_held3 (fun W => W.cell? ⟨w.heap.size + 1, 0, none⟩ = some (.slice (some ⟨bb, off, none⟩) n cap) ∧ W.cell? ⟨bb, off + i * 6, none⟩ = some (.int .i64 x.on) ∧ W.cell? ⟨bb, off + i * 6 + 1, none⟩ = some (.int .i64 2) ∧ W.cell? ⟨bb, off + i * 6 + 2, none⟩ = some (.int .i64 x.a) ∧ W.cell? ⟨bb, off + i * 6 + 3, none⟩ = some (.int .i64 x.b) ∧ W.cell? ⟨bb, off + i * 6 + 4, none⟩ = some (.string x.s) ∧ W.cell? ⟨bb, off + i * 6 + 5, none⟩ = some cv)
              (first | exact k0 | exact k2) (first
              | (go_at_call 25; refine Hq.out.mono ?_; rintro e w8 ⟨E, rfl, hs8⟩; have k2 := HC.out _ hs8.fr))
            go_wp2_with fail
            go_roundg (n - (i + 1))
            case measure => have := Hi.out; omega
            case rel => exact ⟨i + 1, by have := Hi.out; omega, by go_num, hs8⟩
          · go_wp2_with fail
            go_roundg (n - (i + 1))
            case measure => have := Hi.out; omega
            case rel => exact ⟨i + 1, by have := Hi.out; omega, by go_num, Hs'.out⟩
        · have hlti' : ¬ (i : Int) < (n : Int) := by omega
          obtain ⟨⟨b0, b1, b2⟩, b3, b4⟩ := HB.out _ hs.fr
          go_wp2_with (first
            | (go_at_call 26; have hq := HBa.out _ _ _ hs; clear hs; refine hq.mono ?_; clear b0 b1 b2 b3 b4 hq; rintro e w5 ⟨rfl, hs⟩; obtain ⟨⟨b0, b1, b2⟩, b3, b4⟩ := HB.out _ hs.fr)
            | (go_at_call 32; have hq := HCr.out _ _ _ _ _ _ hs; clear hs; refine hq.mono ?_; clear b0 b1 b2 b3 b4 hq; rintro e w6 ⟨rfl, hs⟩)
            | (go_at_call 33; have hq := HRv.out _ _ _ hs; clear hs; refine hq.mono ?_; clear hq; rintro e w7 ⟨rfl, hs⟩; obtain ⟨⟨b0, b1, b2⟩, b3, b4⟩ := HB.out _ hs.fr)
            | (go_at_call 23; have hq := HNw.out _ _ _ hs; clear hs; refine hq.mono ?_; clear b0 b1 b2 b3 b4 hq; rintro e w8 ⟨u, rfl, hs⟩))
          have Ht := Lib.hid hs
          clear hs
          go_loopg [13] C (fun gg vi wz => ∃ (j : Nat), j + gg = C ∧ vi = .int .i64 (j : Int) ∧ TwI W0 wz p v u F C j)
          case atStart => exact ⟨0, by omega, rfl, Ht.out⟩
          case round =>
            obtain ⟨j, hj, rfl, hs⟩ := hrel
            have Hj := Lib.hid hj
            clear hj Ht
            obtain ⟨⟨b0, b1, b2⟩, b3, b4⟩ := HB.out _ hs.fr
            by_cases hltj : j < C
            · have hltj' : (j : Int) < (C : Int) := by omega
              have hwj : IntKind.i64.wrap ((j : Int) + 1) = (j : Int) + 1 := IntWalk.i64_in _ (by omega)
              obtain ⟨S, M, E, hr⟩ := hs.read hltj
              have Hr := Lib.hid hr
              have HR2 := Lib.hid (fun W (h : TwH W0 W p v u F C j S M E) => h.read hltj)
              clear hs hr
              go_wp2_with (first
                | (go_at_call 24; have hq := HR2.out _ hs; clear hs; refine hq.mono ?_; clear hq; rintro e w9 ⟨rfl, hs⟩)
                | (go_at_call 24; refine Hr.out.mono ?_; clear Hr; rintro e w8 ⟨rfl, hs⟩))
              go_roundg (C - (j + 1))
              case measure => have := Hj.out; omega
              case rel => exact ⟨j + 1, by have := Hj.out; omega, by go_num, hs⟩
            · have hltj' : ¬ (j : Int) < (C : Int) := by omega
              go_wp2_with (go_at_call 19; refine (HFx.out _).mono ?_; rintro e w10 ⟨rfl, hf10⟩)
              go_ret
              exact ⟨rfl, (Hf0.out.trans hs.fr).trans hf10⟩
    · have hE1 := newBE_150 hE
      have HX := Lib.hid (fun W p (h : Dd W0 W p D0) => NewB_bad h f c k hf63 hE)
      clear hf0 hb0 hb1 hfa ho ht h0 hD0 hcal hE hz
      go_enter Try.func8, Try.ntmps8
      go_wp2_with (first
        | (go_at_call 22; refine (HN.out _).mono ?_; rintro e w1 ⟨p, rfl, hd⟩; obtain ⟨⟨b0, b1, b2⟩, b3, b4⟩ := HB.out _ hd.fr; have Hd := Lib.hid hd; clear hd)
        | (go_at_call 23; have hq := HX.out _ _ Hd.out; clear HX; refine hq.mono ?_; clear hq; rintro e w3 ⟨rfl, rfl⟩)
        | (go_at_call 19; refine (HFx.out _).mono ?_; rintro e w10 ⟨rfl, hf10⟩))
      go_ret
      exact ⟨rfl, (Hf0.out.trans Hd.out.fr).trans hf10⟩
  · have HN := Lib.hid (fun W => new_any t W ht h0)
    clear hf0 hb0 hb1 hfa ho ht h0 hz
    go_enter Try.func8, Try.ntmps8
    go_wp2_with (first
      | (go_at_call 22; refine (HN.out _).mono ?_; rintro e w1 ⟨rfl, rfl⟩)
      | (go_at_call 19; refine (HFx.out _).mono ?_; rintro e w3 ⟨rfl, hf3⟩))
    go_ret
    exact ⟨rfl, Hf0.out.trans hf3⟩
end Go.Proofs.Ythmnloapjdalpaa

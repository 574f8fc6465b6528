/- BlockDoes: the walk. -/
import Derived.Test.YthmnloapjdalpaaV10
namespace Go.Proofs.Ythmnloapjdalpaa
open Go.RowKit
set_option linter.unusedVariables false
set_option linter.unusedSimpArgs false
set_option maxRecDepth 100000 in
set_option maxHeartbeats 4000000 in
theorem bdoes_walk (t : ByteArray) (f c k : Int) (w : World) (A : Option Addr) (n cap : Nat) (ops : Nat → OpB) (ht : t.size ≤ maxLen) (hf0 : f ≤ 9223372036854775807) (ho : OpsB w (.slice A n cap) n ops) (h8s : ∀ i, i < n → (ops i).ch.length * 8 ≤ 140737488355328) (hn8 : (n + 1) * 8 ≤ 140737488355328) :
    Calls Try.prog 9 #[.string t, .agg #[.int .i64 f, .int .i64 c, .int .i64 k], .slice A n cap] w fun e w' => e = .returned (.bool true) ∧ Fr [] w w' := by
  have HF := Lib.hid (fun W => fixed15_any W)
  obtain ⟨W0, hW0⟩ : ∃ W0, w.alloc (.cells #[.int .i64 f, .int .i64 c, .int .i64 k] 34) = W0 := ⟨_, rfl⟩
  have HfW0 : Hid (Fr [] w W0) := Lib.hid (by rw [← hW0]; exact (Fr.refl [] w).alloc _)
  by_cases h0 : newE t = 0
  · have HNw := Lib.hid (New_ok t W0 h0)
    have HRn := Lib.hid (fun W => rNew_ok t W h0)
    have hE34 := Blk.new w 34 #[.int .i64 f, .int .i64 c, .int .i64 k]
    rw [hW0] at hE34
    have HE34 := Lib.hid (fun W (hf : Fr [] W0 W) => (show W.cell? ⟨w.heap.size, 0, none⟩ = some (.int .i64 f) ∧ W.cell? ⟨w.heap.size, 1, none⟩ = some (.int .i64 c) ∧ W.cell? ⟨w.heap.size, 2, none⟩ = some (.int .i64 k) from ⟨hf.cell_some (hE34.cell 0) (by simp), hf.cell_some (hE34.cell 1) (by simp), hf.cell_some (hE34.cell 2) (by simp)⟩))
    have HO := Lib.hid ho
    have H8 := Lib.hid h8s
    have HW0 := Lib.hid hW0
    clear ho h8s hE34 h0
    go_enter Try.func9, Try.ntmps9
    go_upto_region 7 with (first
      | (go_at_call 22; refine HNw.out.mono ?_; rintro e w1 ⟨p, g, m, rfl, hD1, hf1, b1, b2, b3⟩; have HD1 := Lib.hid hD1; have Hf1 := Lib.hid hf1; clear hD1 hf1)
      | (go_at_call 35; refine (HRn.out _).mono ?_; rintro e w2 ⟨q, rfl, hR2, hf2, b4⟩; have HR2 := Lib.hid hR2; have Hf2 := Lib.hid hf2; clear hR2 hf2))
    have hs1w := Hf1.out.size
    have hDd : Dd W0 w2 p (newD t) := ⟨Hf1.out.trans Hf2.out, g, m, HD1.out.to Hf2.out, b1, b2, b3⟩
    have hDp := HD1.out.to Hf2.out
    obtain ⟨e0, e1, e2⟩ := HE34.out _ (Hf1.out.trans Hf2.out)
    by_cases hE : newBE (newD t) f c k = 0
    · have HB := Lib.hid (NewB_new hDd f c k hE)
      have HRB := Lib.hid (fun W (hf : Fr [] w2 W) => rNewB_ok q (newD t) f c k W (HR2.out.to hf) hE)
      have HE0 := Lib.hid hE
      have HDp := Lib.hid hDp
      have Hf12 := Lib.hid (Hf1.out.trans Hf2.out)
      have hs2w := Hf2.out.size
      clear hE hDd hDp HNw HRn
      go_upto_region 13 with (first
        | (go_at_call 23; refine HB.out.mono ?_; rintro e w3 ⟨v, rfl, hv, b5, hf3⟩; have Hv3 := Lib.hid hv.dev; have Hin := Lib.hid hv.in_; have Hf3 := Lib.hid hf3; obtain ⟨e0, e1, e2⟩ := HE34.out _ (Hf12.out.trans hf3); clear hv hf3)
        | (go_at_call 36; refine (HRB.out _ Hf3.out).mono ?_; rintro e w4 ⟨y, rfl, hy, hin2, hf4, b6⟩; have Hy4 := Lib.hid hy; have Hf4 := Lib.hid hf4; clear hy hf4))
      have hs3w := Hf3.out.size
      have hs4w := Hf4.out.size
      have Hf34 := Lib.hid (Hf3.out.trans Hf4.out)
      have HI0 := Lib.hid (SdI.first (b := newB f c k) (f := f) (c := c) (k := k) HW0.out (Hf12.out.trans Hf34.out) (HDp.out.to Hf34.out) (HR2.out.to Hf34.out) (Hv3.out.to Hf4.out) Hy4.out Hin.out b1 b2 b3 (by omega) (by omega) (by omega) rfl rfl)
      clear HB HRB HDp Hf12 HD1 HR2 Hf1 Hf2 Hf3 Hf4 Hf34 Hv3 Hy4 Hin b1 b2 b3 b4 b5 b6 hs1w hs2w hs3w hs4w hin2 HW0 HfW0
      obtain ⟨i7, hi7, hz7, hs7, hb7⟩ := info3 Try.info67
      obtain ⟨nn, hnn⟩ : ∃ nn, (newD t).n = nn := ⟨_, rfl⟩
      rw [hnn] at HI0
      have Hd0 : Hid ((newD t).n = nn) := Lib.hid hnn
      clear hnn
      generalize newD t = d0 at *
      go_wp2_with fail
      go_loopg [15, 16] n (fun gg v15 v16 wr => ∃ (i N : Nat) (X : Nat → Says) (gl cl : Nat), i + gg = n ∧ v16 = .int .i64 (i : Int) ∧ N ≤ i + 1 ∧ v15 = .slice (some ⟨gl, 0, none⟩) N cl ∧ SdI w wr N nn i X gl cl w.heap.size f c k)
      case atStart => exact ⟨0, 1, _, w4.heap.size + 1, 1, by omega, rfl, by omega, rfl, HI0.out⟩
      case round =>
        obtain ⟨i, N, X, gl, cl, hi, rfl, hNi, rfl, hI⟩ := hrel
        have Hi := Lib.hid hi
        have HNi := Lib.hid hNi
        have hN1 := hI.n1
        have hNi' : (N : Int) ≤ 17592186044417 := by omega
        by_cases hlt : i < n
        · have hlt' : (i : Int) < (n : Int) := by omega
          have hm1 : N + 1 ≤ maxLen := by simp only [maxLen]; omega
          have hm2 : (N + 1) * 8 ≤ 140737488355328 := by omega
          have hi0' : (0 : Int) ≤ (i : Int) := by omega
          have hwi : IntKind.i64.wrap ((i : Int) + 1) = (i : Int) + 1 := IntWalk.i64_in _ (by omega)
          obtain ⟨hF, b, off, cv, rfl, hat⟩ := HO.out.at_ hlt
          have h8 := H8.out i hlt
          generalize hx : ops i = x at *
          obtain ⟨cA, cc, rfl, -⟩ := (show Zw w cv x.ch from hat.z)
          have HCh := Lib.hid hat.z
          obtain ⟨c0, c1, c2, c3, c4, c5⟩ := (hat.fr hI.fr).six
          have hone := wf_le hF.on
          obtain ⟨j, hj, hjN⟩ : ∃ j : Nat, x.on % (N : Int) = (j : Int) ∧ j < N := by
            have h1 := Int.emod_nonneg x.on (show (N : Int) ≠ 0 by omega)
            have h2 := Int.emod_lt_of_pos x.on (show (0 : Int) < N by omega)
            exact ⟨(x.on % (N : Int)).toNat, by omega, by omega⟩
          have HP := Lib.hid (fun W => (place15_big x.on N (by omega) (by omega) hone.1 hone.2 W))
          rw [hj] at HP
          have hjN' : (j : Int) < (N : Int) := by omega
          have hj0 : (0 : Int) ≤ (j : Int) := by omega
          generalize hcl : x.ch.length = clc at *
          obtain ⟨WX, hWX⟩ : ∃ WX, wr.alloc (.cells #[.int .i64 x.on, .int .i64 x.kind, .int .i64 x.a, .int .i64 x.b, .string x.s, .slice cA clc cc] 44) = WX := ⟨_, rfl⟩
          have hbx := Blk.new wr 44 #[.int .i64 x.on, .int .i64 x.kind, .int .i64 x.a, .int .i64 x.b, .string x.s, .slice cA clc cc]
          have hI := hI.to ((Fr.refl [] wr).alloc (.cells #[.int .i64 x.on, .int .i64 x.kind, .int .i64 x.a, .int .i64 x.b, .string x.s, .slice cA clc cc] 44))
          rw [hWX] at hbx hI
          have HBX := Lib.hid (fun W (h : Blk W wr.heap.size 44 #[.int .i64 x.on, .int .i64 x.kind, .int .i64 x.a, .int .i64 x.b, .string x.s, .slice cA clc cc]) => (show W.cell? ⟨wr.heap.size, 0, none⟩ = some (.int .i64 x.on) ∧ W.cell? ⟨wr.heap.size, 1, none⟩ = some (.int .i64 x.kind) ∧ W.cell? ⟨wr.heap.size, 2, none⟩ = some (.int .i64 x.a) ∧ W.cell? ⟨wr.heap.size, 3, none⟩ = some (.int .i64 x.b) ∧ W.cell? ⟨wr.heap.size, 4, none⟩ = some (.string x.s) ∧ W.cell? ⟨wr.heap.size, 5, none⟩ = some (.slice cA clc cc) from ⟨h.cell 0, h.cell 1, h.cell 2, h.cell 3, h.cell 4, h.cell 5⟩))
          obtain ⟨m0, m1, m2, m3, m4, m5⟩ := HBX.out _ hbx
          obtain ⟨x0, e0, e1, e2⟩ := hI.cells hjN
          obtain ⟨sj, hsj⟩ : ∃ sj, (X j).s = sj := ⟨_, rfl⟩
          rw [hsj] at x0
          clear hat hx hj hone hi hNi hcl HI0
          by_cases hk6 : x.kind = 6
          · have hd6 : (x.kind == 6) = true := beq_iff_eq.2 hk6
            clear hk6
            go_upto_region 20 with (go_at_call 21; refine (HP.out _).mono ?_; rintro e w1 ⟨rfl, rfl⟩)
            generalize hbX : wr.heap.size = bX at *
            obtain ⟨⟨v, y, hcC⟩, hin⟩ := (hI.sd.side j hjN).clone
            rw [hsj] at hcC
            have HC := Lib.hid hcC
            have HIx := Lib.hid hI
            have Hbx := Lib.hid hbx
            have Hin := Lib.hid hin
            obtain ⟨p, hp⟩ : ∃ p, (X j).p = p := ⟨_, rfl⟩
            obtain ⟨q, hq⟩ : ∃ q, (X j).q = q := ⟨_, rfl⟩
            rw [hp, hq] at HC
            have hf := (Fr.refl [] WX).drew
            have k0 := HC.out.c _ hf
            have l0 := HC.out.c _ (Fr.refl [] WX)
            obtain ⟨z0, z1, z2, z3⟩ := l0
            clear hcC hI hbx hin hp hq m0 m1 m2 m3 m4 m5 e0 e1 e2
            go_region_held3 (fun W => W.cell? ⟨sj, 0, none⟩ = some (ptr v) ∧ W.cell? ⟨sj, 1, none⟩ = some (ptr p) ∧ W.cell? ⟨sj, 2, none⟩ = some (ptr y) ∧ W.cell? ⟨sj, 3, none⟩ = some (ptr q))
              (first | exact kk | exact k0) (first
              | (go_at_call 37; have hz1 := hf.size; refine (HC.out.p _ hf).mono ?_; rintro e w2 ⟨p', g', m', rfl, hD2, hf2, b1, b2, b3⟩; have hf := hf.trans hf2; have kk := HC.out.c _ hf; have HDc := Lib.hid hD2; clear hD2 hf2)
              | (go_at_call 38; have hz2 := hf.size; refine (HC.out.q _ hf).mono ?_; rintro e w3 ⟨q', rfl, hR3, b4, hf3⟩; have hf := hf.trans hf3; have kk := HC.out.c _ hf; have HDc := Lib.hid (HDc.out.to hf3); have HRc := Lib.hid hR3; clear hR3 hf3))
            have HDc := Lib.hid (HDc.out.to (Fr.refl [] _).drew)
            have HRc := Lib.hid (HRc.out.to (Fr.refl [] _).drew)
            obtain ⟨z0, z1, z2, z3⟩ := HC.out.c _ hf
            have hf := hf.drew
            have k1 := HC.out.c _ hf
            clear kk k0
            go_wp2_with fail
            go_region_held3 (fun W => W.cell? ⟨sj, 0, none⟩ = some (ptr v) ∧ W.cell? ⟨sj, 1, none⟩ = some (ptr p) ∧ W.cell? ⟨sj, 2, none⟩ = some (ptr y) ∧ W.cell? ⟨sj, 3, none⟩ = some (ptr q))
              (first | exact kk | exact k1 | exact kn) (first
              | (go_at_call 39; have hz3 := hf.size; refine (HC.out.v _ _ hf).mono ?_; rintro e w4 ⟨v', rfl, hV4, hf4, b5⟩; have hf := hf.trans hf4; have kk := HC.out.c _ hf; have HDc := Lib.hid (HDc.out.to hf4); have HRc := Lib.hid (HRc.out.to hf4); have HVc := Lib.hid hV4; clear hV4 hf4)
              | (go_at_call 40; have hz4 := hf.size; refine (HC.out.y _ _ hf).mono ?_; rintro e w5 ⟨y', rfl, hY5, hf5, b6⟩; have hf := hf.trans hf5; have kk := HC.out.c _ hf; have HDc := Lib.hid (HDc.out.to hf5); have HRc := Lib.hid (HRc.out.to hf5); have HVc := Lib.hid (HVc.out.to hf5); have HYc := Lib.hid hY5; have kn := HC.out.c _ (hf.alloc (.cells #[ptr v', ptr p', ptr y', ptr q'] 69)); clear hY5 hf5))
            have hfW : Fr [] WX ((w5.alloc (.cells #[ptr v', ptr p', ptr y', ptr q'] 69)).alloc (.cells #[ptr w5.heap.size] 67)) := (hf.alloc _).alloc _
            have hS := side_new (W := (w5.alloc (.cells #[ptr v', ptr p', ptr y', ptr q'] 69)).alloc (.cells #[ptr w5.heap.size] 67)) hf HDc.out HRc.out HVc.out HYc.out Hin.out (by omega) (by omega) (by omega) (by omega) (by omega) (by omega) ((Fr.refl [] _).alloc _)
            have HPush := Lib.hid (fun (v8 : Value) (w8 : World) (ho : w8.ownsRow w.heap.size 67 1 v8 (N + 1) (ptrs (fun i => (X i).s) N ++ [ptr w5.heap.size])) (hg : ((w5.alloc (.cells #[ptr v', ptr p', ptr y', ptr q'] 69)).alloc (.cells #[ptr w5.heap.size] 67)).grownBy w8 (Value.ownBlock (.slice (some ⟨gl, 0, none⟩) N cl))) => (show ∃ gl' cl' X2, v8 = .slice (some ⟨gl', 0, none⟩) (N + 1) cl' ∧ SdI w w8 (N + 1) nn i X2 gl' cl' w.heap.size f c k ∧ (X2 j).s = sj ∧ Blk w8 bX 44 #[.int .i64 x.on, .int .i64 x.kind, .int .i64 x.a, .int .i64 x.b, .string x.s, .slice cA clc cc] from by
              obtain ⟨gl', cl', e1, h1, h2⟩ := HIx.out.push hfW (x := ⟨w5.heap.size, p', q', (X j).b, (X j).d, [w5.heap.size, v', p', g', m', y', q']⟩) hS.1 hS.2 (HIx.out.sd.co j hjN) (HIx.out.sd.nn j hjN) (HIx.out.sd.mm j hjN) ho hg
              exact ⟨gl', cl', _, e1, h1, by rw [at1_ne (by omega)]; exact hsj, h2 _ _ _ (Hbx.out.fr hfW (by simp)) (by decide)⟩))
            have HL7 := Lib.hid (own_fr HIx.out.ls hfW (by simp))
            have Hsz7 : w.heap.size ≤ ((w5.alloc (.cells #[ptr v', ptr p', ptr y', ptr q'] 69)).alloc (.cells #[ptr w5.heap.size] 67)).heap.size := Nat.le_trans HIx.out.fr.size hfW.size
            have Hn7 : Hid (∀ (j : Nat) (u : Value), [ptr w5.heap.size][j]? = some u → ((w5.alloc (.cells #[ptr v', ptr p', ptr y', ptr q'] 69)).alloc (.cells #[ptr w5.heap.size] 67)).cell? ((⟨w5.heap.size + 1, 0, none⟩ : Addr).add j) = some u) := Lib.hid (by
              have := news1 ((Blk.new (w5.alloc (.cells #[ptr v', ptr p', ptr y', ptr q'] 69)) 67 #[ptr w5.heap.size]).cell 0)
              rw [World.size_alloc] at this
              exact this)
            clear HDc HRc HVc HYc HC hfW hS kk k1 kn b1 b2 b3 b4 b5 b6 hz1 hz2 hz3 hz4 hf z0 z1 z2 z3 HIx
            go_upto_region 27 with (at_builtin; (refine wpList_append_own _ rfl (.tmp 138) (.tmp 140) 70 rfl w.heap.size 67 i7 (.pointer none) 1 8 Try.underlying70 hi7 hz7 hs7 hb7 rfl (Nat.succ_pos 0) (.slice (some ⟨gl, 0, none⟩) N cl) N (ptrs (fun i => (X i).s) N) rfl HL7.out ⟨w5.heap.size + 1, 0, none⟩ 1 1 [ptr w5.heap.size] rfl rfl Hn7.out (by simp [Value.oneCell']) hm1 hm2 Hsz7 ?_; intro v8 w8 ho8 hg8 hnn8; obtain ⟨gl', cl', X2, rfl, hI, hsj2, hbx⟩ := HPush.out _ _ ho8 hg8; clear ho8 hg8 hnn8))
            clear HPush HL7 Hsz7 Hn7
            have hjN2 := hjN
            have hjN : j < N + 1 := by omega
            clear hjN' hm1 hm2
            generalize hM : N + 1 = M at *
            have HM := Lib.hid hM
            clear hM
            have hjN' : (j : Int) < (M : Int) := by omega
            obtain ⟨v, y, hA⟩ := hI.sideA hjN hF HCh.out h8 (by omega) Hd0.out HE0.out
            have H41 : Hid (Calls Try.prog 41 #[ptr sj, .agg #[.int .i64 x.on, .int .i64 x.kind, .int .i64 x.a, .int .i64 x.b, .string x.s, .slice cA clc cc], .int .i64 f, .int .i64 c, .int .i64 k] w8 (DoesQ (X2 j).z w8 (X2 j).s (X2 j).p (X2 j).q (X2 j).b (X2 j).d)) := Lib.hid (by rw [← hsj2]; exact does_any hA)
            obtain ⟨b0, b1, b2, b3, b4, b5⟩ := HBX.out _ hbx
            obtain ⟨g0, e0, e1, e2⟩ := hI.cells hjN
            have HI := Lib.hid hI
            have Hsj2 := Lib.hid hsj2
            clear hI hA hbx hsj2
            go_wp2_with (go_at_call 41; refine H41.out.mono ?_; rintro e9 w9 ⟨rfl, hq⟩; obtain ⟨X3, hI3, hX3, -⟩ := HI.out.turn hjN ⟨rfl, hq⟩; have HI3 := Lib.hid hI3; have hl9 := ((hI3.sd.side j hjN).to (Fr.refl [] w9).drew).look; rw [hX3 j, Hsj2.out] at hl9; obtain ⟨v3, y3, IM, SF, hL⟩ := hl9; have HL := Lib.hid hL; clear hI3 hq hL)
            obtain ⟨k0, k1, k2, k3, k4, k5⟩ := HL.out.c _ (Fr.refl _ _)
            have l0 := And.intro k0 (And.intro k2 (And.intro k4 k5))
            have hf := Fr.refl [] w9.drew
            generalize (X3 j).b.misses = ms at *
            generalize (X3 j).b.count = ct at *
            go_region_held3 (fun W => W.cell? ⟨sj, 0, none⟩ = some (ptr v3) ∧ W.cell? ⟨sj, 2, none⟩ = some (ptr y3) ∧ W.cell? ⟨y3, 2, none⟩ = some (.int .i64 (ct : Int)) ∧ W.cell? ⟨y3, 5, none⟩ = some (.int .i64 (ms : Int)))
              (first | exact ll | exact l0) (first
              | (go_at_call 27; have hq := HL.out.m _ hf; clear hf; refine hq.mono ?_; clear hq; rintro e8 w8 ⟨rfl, hf⟩; obtain ⟨k0, k1, k2, k3, k4, k5⟩ := HL.out.c _ hf; have ll := And.intro k0 (And.intro k2 (And.intro k4 k5)))
              | (go_at_call 42; have hq := HL.out.n _ hf; clear hf; refine hq.mono ?_; clear hq; rintro e8 w8 ⟨rfl, hf⟩; obtain ⟨k0, k1, k2, k3, k4, k5⟩ := HL.out.c _ hf; have ll := And.intro k0 (And.intro k2 (And.intro k4 k5))))
            have HI4 := Lib.hid (HI3.out.to ((Fr.refl [] w9).drew.trans hf))
            clear hf l0 ll k0 k1 k2 k3 k4 k5
            go_wp2_with fail
            go_roundg (n - (i + 1))
            case measure => have := Hi.out; omega
            case rel => exact ⟨i + 1, M, X3, gl', cl', by have := Hi.out; omega, by go_num, by have := HNi.out; have := HM.out; omega, rfl, HI4.out⟩
          · have hk6' : ¬ x.kind = 6 := hk6
            go_upto_region 27 with (go_at_call 21; refine (HP.out _).mono ?_; rintro e w1 ⟨rfl, rfl⟩)
            generalize hbX : wr.heap.size = bX at *
            have hsj2 := hsj
            generalize hW0' : WX = W0' at *
            clear hW0'
            obtain ⟨v, y, hA⟩ := hI.sideA hjN hF HCh.out h8 (by omega) Hd0.out HE0.out
            have H41 : Hid (Calls Try.prog 41 #[ptr sj, .agg #[.int .i64 x.on, .int .i64 x.kind, .int .i64 x.a, .int .i64 x.b, .string x.s, .slice cA clc cc], .int .i64 f, .int .i64 c, .int .i64 k] W0' (DoesQ (X j).z W0' (X j).s (X j).p (X j).q (X j).b (X j).d)) := Lib.hid (by rw [← hsj2]; exact does_any hA)
            obtain ⟨b0, b1, b2, b3, b4, b5⟩ := HBX.out _ hbx
            obtain ⟨g0, e0, e1, e2⟩ := hI.cells hjN
            have HI := Lib.hid hI
            have Hsj2 := Lib.hid hsj2
            clear hI hA hbx hsj2
            go_wp2_with (go_at_call 41; refine H41.out.mono ?_; rintro e9 w9 ⟨rfl, hq⟩; obtain ⟨X3, hI3, hX3, -⟩ := HI.out.turn hjN ⟨rfl, hq⟩; have HI3 := Lib.hid hI3; have hl9 := ((hI3.sd.side j hjN).to (Fr.refl [] w9).drew).look; rw [hX3 j, Hsj2.out] at hl9; obtain ⟨v3, y3, IM, SF, hL⟩ := hl9; have HL := Lib.hid hL; clear hI3 hq hL)
            obtain ⟨k0, k1, k2, k3, k4, k5⟩ := HL.out.c _ (Fr.refl _ _)
            have l0 := And.intro k0 (And.intro k2 (And.intro k4 k5))
            have hf := Fr.refl [] w9.drew
            generalize (X3 j).b.misses = ms at *
            generalize (X3 j).b.count = ct at *
            go_region_held3 (fun W => W.cell? ⟨sj, 0, none⟩ = some (ptr v3) ∧ W.cell? ⟨sj, 2, none⟩ = some (ptr y3) ∧ W.cell? ⟨y3, 2, none⟩ = some (.int .i64 (ct : Int)) ∧ W.cell? ⟨y3, 5, none⟩ = some (.int .i64 (ms : Int)))
              (first | exact ll | exact l0) (first
              | (go_at_call 27; have hq := HL.out.m _ hf; clear hf; refine hq.mono ?_; clear hq; rintro e8 w8 ⟨rfl, hf⟩; obtain ⟨k0, k1, k2, k3, k4, k5⟩ := HL.out.c _ hf; have ll := And.intro k0 (And.intro k2 (And.intro k4 k5)))
              | (go_at_call 42; have hq := HL.out.n _ hf; clear hf; refine hq.mono ?_; clear hq; rintro e8 w8 ⟨rfl, hf⟩; obtain ⟨k0, k1, k2, k3, k4, k5⟩ := HL.out.c _ hf; have ll := And.intro k0 (And.intro k2 (And.intro k4 k5))))
            have HI4 := Lib.hid (HI3.out.to ((Fr.refl [] w9).drew.trans hf))
            clear hf l0 ll k0 k1 k2 k3 k4 k5
            go_wp2_with fail
            go_roundg (n - (i + 1))
            case measure => have := Hi.out; omega
            case rel => exact ⟨i + 1, N, X3, gl, cl, by have := Hi.out; omega, by go_num, by have := HNi.out; omega, rfl, HI4.out⟩
        · have hlt' : ¬ (i : Int) < (n : Int) := by omega
          have HI := Lib.hid hI
          clear hi hNi hI HI0 HO H8 hi7 hz7 hs7 hb7 Hi HNi HE34
          go_wp2_with fail
          go_loopg [23] N (fun gg v23 W => ∃ (j : Nat), j + gg = N ∧ v23 = .int .i64 (j : Int) ∧ SdI w W N nn i X gl cl w.heap.size f c k)
          case atStart => exact ⟨0, by omega, rfl, HI.out⟩
          case round =>
            obtain ⟨j, hj, rfl, hI⟩ := hrel
            have Hj := Lib.hid hj
            clear HI
            by_cases hlj : j < N
            · have hlj' : (j : Int) < (N : Int) := by omega
              have hj0 : (0 : Int) ≤ (j : Int) := by omega
              have hwj : IntKind.i64.wrap ((j : Int) + 1) = (j : Int) + 1 := IntWalk.i64_in _ (by omega)
              obtain ⟨v3, y3, IM, SF, hL⟩ := (hI.sd.side j hlj).look
              have HL := Lib.hid hL
              have HG := Lib.hid (fun W (hf : Fr [] wr W) => ((hI.to hf).cells hlj).1)
              have HI3 := Lib.hid hI
              generalize (X j).s = sj at *
              generalize (X j).p = pj at *
              generalize (X j).q = qj at *
              generalize (X j).b.misses = ms at *
              generalize (X j).b.count = ct at *
              have hf := (Fr.refl [] wr).drew
              have y0 := HG.out _ (Fr.refl [] wr)
              have l0 := And.intro (HG.out _ hf) (HL.out.c _ hf)
              clear hI hj hL
              go_wp2_with fail
              go_region_held3 (fun W => W.cell? ⟨gl, j, none⟩ = some (ptr sj) ∧ W.cell? ⟨sj, 0, none⟩ = some (ptr v3) ∧ W.cell? ⟨sj, 1, none⟩ = some (ptr pj) ∧ W.cell? ⟨sj, 2, none⟩ = some (ptr y3) ∧ W.cell? ⟨sj, 3, none⟩ = some (ptr qj) ∧ W.cell? ⟨y3, 2, none⟩ = some (.int .i64 (ct : Int)) ∧ W.cell? ⟨y3, 5, none⟩ = some (.int .i64 (ms : Int)))
                (first | exact ll | exact l0) (first
                | (go_at_call 27; have hq := HL.out.m _ hf; clear hf; refine hq.mono ?_; clear hq; rintro e8 w8 ⟨rfl, hf⟩; have ll := And.intro (HG.out _ hf) (HL.out.c _ hf))
                | (go_at_call 28; have hq := HL.out.i _ hf; clear hf; refine hq.mono ?_; clear hq; rintro e8 w8 ⟨rfl, hf⟩; have ll := And.intro (HG.out _ hf) (HL.out.c _ hf))
                | (go_at_call 43; have hq := HL.out.ri _ hf; clear hf; refine hq.mono ?_; clear hq; rintro e8 w8 ⟨rfl, hf⟩; have ll := And.intro (HG.out _ hf) (HL.out.c _ hf))
                | (go_at_call 31; have hq := HL.out.f _ hf; clear hf; refine hq.mono ?_; clear hq; rintro e8 w8 ⟨rfl, hf⟩; have ll := And.intro (HG.out _ hf) (HL.out.c _ hf))
                | (go_at_call 44; have hq := HL.out.rf _ hf; clear hf; refine hq.mono ?_; clear hq; rintro e8 w8 ⟨rfl, hf⟩; have ll := And.intro (HG.out _ hf) (HL.out.c _ hf)))
              have HI4 := Lib.hid (HI3.out.to hf)
              clear hf l0 ll
              go_wp2_with fail
              go_roundg (N - (j + 1))
              case measure => have := Hj.out; omega
              case rel => exact ⟨j + 1, by have := Hj.out; omega, by go_num, HI4.out⟩
            · have hlj' : ¬ (j : Int) < (N : Int) := by omega
              have HFr := Lib.hid hI.fr
              clear hI hj
              go_wp2_with (go_at_call 19; refine (HF.out _).mono ?_; rintro e w3 ⟨rfl, hf3⟩)
              go_ret
              exact ⟨rfl, HFr.out.trans hf3⟩
    · have HB := Lib.hid (NewB_bad hDd f c k hf0 hE)
      have HRB := Lib.hid (rNewB_bad q (newD t) f c k w2 HR2.out hf0 hE)
      have Hf12 := Lib.hid (HfW0.out.trans (Hf1.out.trans Hf2.out))
      clear hDd hDp HD1 HR2 hE Hf1 Hf2
      go_wp2_with (first
        | (go_at_call 23; refine HB.out.mono ?_; rintro e w3 ⟨rfl, rfl⟩)
        | (go_at_call 36; refine HRB.out.mono ?_; rintro e w4 ⟨rfl, rfl⟩)
        | (go_at_call 19; refine (HF.out _).mono ?_; rintro e w5 ⟨rfl, hf5⟩))
      go_ret
      exact ⟨rfl, Hf12.out.trans hf5⟩
  · have HNw := Lib.hid (New_bad t W0 ht h0)
    have HRn := Lib.hid (rNew_bad t W0 ht h0)
    clear ho h8s
    go_enter Try.func9, Try.ntmps9
    go_wp2_with (first
      | (go_at_call 22; refine HNw.out.mono ?_; rintro e w1 ⟨rfl, rfl⟩)
      | (go_at_call 35; refine HRn.out.mono ?_; rintro e w2 ⟨rfl, rfl⟩)
      | (go_at_call 19; refine (HF.out _).mono ?_; rintro e w3 ⟨rfl, hf3⟩))
    go_ret
    exact ⟨rfl, HfW0.out.trans hf3⟩
end Go.Proofs.Ythmnloapjdalpaa

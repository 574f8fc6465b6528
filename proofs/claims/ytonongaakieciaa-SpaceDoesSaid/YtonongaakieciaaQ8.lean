/- SpaceDoes: the walk. -/
import Derived.Test.YtonongaakieciaaQ7
import Derived.Deep.DeepCutAuto
namespace Go.Proofs.Ytonongaakieciaa
open Go.RowKit
set_option linter.unusedVariables false
set_option linter.unusedSimpArgs false
set_option maxRecDepth 100000
set_option maxHeartbeats 8000000 in
theorem spaceDoes_walk (b m cap : Nat) (A : Option Addr) (t : List Pg) (w : World) (ht : Tb w b (.slice A m cap) t) (B : Option Addr) (n cp : Nat) (ops : Nat → OpX) (ho : OpsX w B n ops) (hn8 : (n + 1) * 8 ≤ 140737488355328) :
    Calls Try.prog 4 #[.slice A m cap, .slice B n cp] w fun e w' => e = .returned (.bool true) ∧ Fr [] w w' := by
  have HF := Lib.hid (fun W => fixed_any W)
  by_cases h0 : ptsE t = 0
  · have HNw := Lib.hid (SNew_ok b m cap A t w ht h0)
    have HRn := Lib.hid (fun W (hf : Fr [] w W) => rSNew_ok b m cap A t W (ht.fr hf (by simp)) h0)
    have HO := Lib.hid ho
    have HS1 := Lib.hid (Sp1.new h0)
    obtain ⟨i1, hi1, hz1, hs1, hb1⟩ := info3 Try.info25
    obtain ⟨i2, hi2, hz2, hs2, hb2⟩ := info3 Try.info39
    clear ho h0 ht
    go_enter Try.func4, Try.ntmps4
    go_upto_region 7 with (first
      | (go_at_call 13; refine HNw.out.mono ?_; rintro e w1 ⟨s, p, F, g, rfl, hD1, hf1, b1, b2, b3, b4⟩; have HD1 := Lib.hid hD1; have Hf1 := Lib.hid hf1; clear hD1 hf1)
      | (go_at_call 21; refine (HRn.out _ Hf1.out).mono ?_; rintro e w2 ⟨y, q, G, g', rfl, hR2, hf2, b5, b6, b7, b8⟩; have HR2 := Lib.hid hR2; have Hf2 := Lib.hid hf2; clear hR2 hf2))
    have hs1w := Hf1.out.size
    obtain ⟨d1, d2, d3, d4⟩ := HD1.out.lt
    have hdu : DuoS w w2 1 (at1 (fun _ => 0) 0 s) (at1 (fun _ => 0) 0 y) (at1 (fun _ => []) 0 [s, p, F, g, y, q, G, g']) (at1 (fun _ => spNew t) 0 (spNew t)) (at1 (fun _ => spNew t) 0 (spNew t)) := ((DuoS.none w (fun _ => 0) (fun _ => 0) (fun _ => []) (fun _ => spNew t)).to (Hf1.out.trans Hf2.out)).push (B := w.heap.size) (fun i hi => by omega) (Nat.le_refl _) (HD1.out.to Hf2.out) HR2.out (by omega) HS1.out (fun k hk => by
      simp at hk
      rcases hk with rfl | rfl | rfl | rfl | rfl | rfl | rfl | rfl <;> omega)
    have hs2w := hdu.fr.size
    have HI0 : Hid (SdI w ((w2.alloc (.cells #[ptr s] 25)).alloc (.cells #[ptr y] 39)) 1 (at1 (fun _ => 0) 0 s) (at1 (fun _ => 0) 0 y) (at1 (fun _ => []) 0 [s, p, F, g, y, q, G, g']) (at1 (fun _ => spNew t) 0 (spNew t)) (at1 (fun _ => spNew t) 0 (spNew t)) w2.heap.size 1 (w2.heap.size + 1) 1) := by
      have hr1 : (w2.alloc (.cells #[ptr s] 25)).ownsRow w.heap.size 25 1 (.slice (some ⟨w2.heap.size, 0, none⟩) 1 1) 1 [ptr s] := own_made1 w2 w.heap.size 25 (ptr s) hs2w
      have hr2 : ((w2.alloc (.cells #[ptr s] 25)).alloc (.cells #[ptr y] 39)).ownsRow w.heap.size 39 1 (.slice (some ⟨w2.heap.size + 1, 0, none⟩) 1 1) 1 [ptr y] := by
        have := own_made1 (w2.alloc (.cells #[ptr s] 25)) w.heap.size 39 (ptr y) (by rw [World.size_alloc]; omega)
        rw [World.size_alloc] at this
        exact this
      refine Lib.hid ⟨hdu.to (((Fr.refl [] w2).alloc _).alloc _), Nat.le_refl _, ?_, ?_⟩
      · exact own_fr hr1 ((Fr.refl [] _).alloc _) (by simp)
      · exact hr2
    clear hdu b1 b2 b3 b4 b5 b6 b7 b8 hs1w HD1 HR2 Hf1 Hf2 HNw HRn hs2w d1 d2 d3 d4 HS1
    go_wp2_with fail
    go_loopg [9, 10, 11] n (fun gg v9 v10 v11 wr => ∃ (i N : Nat) (P Q : Nat → Nat) (Z : Nat → List Nat) (D : Nat → Sp) (gx cx gy cy : Nat), i + gg = n ∧ v11 = .int .i64 (i : Int) ∧ N ≤ i + 1 ∧ v9 = .slice (some ⟨gx, 0, none⟩) N cx ∧ v10 = .slice (some ⟨gy, 0, none⟩) N cy ∧ SdI w wr N P Q Z D D gx cx gy cy)
    case atStart => exact ⟨0, 1, _, _, _, _, w2.heap.size, 1, w2.heap.size + 1, 1, by omega, rfl, by omega, rfl, rfl, HI0.out⟩
    case round =>
      obtain ⟨i, N, P, Q, Z, D, gx, cx, gy, cy, hi, rfl, hNi, rfl, rfl, hI⟩ := hrel
      have Hi := Lib.hid hi
      have HNi := Lib.hid hNi
      have hN1 := hI.n1
      have hNi' : (N : Int) ≤ 17592186044417 := by omega
      by_cases hlt : i < n
      · have hlt' : (i : Int) < (n : Int) := by omega
        have hm1 : N + 1 ≤ maxLen := by simp only [maxLen]; omega
        have hm2 : (N + 1) * 8 ≤ 140737488355328 := by omega
        have hi0' : (0 : Int) ≤ (i : Int) := by omega
        have hwi : IntKind.i64.wrap ((i : Int) + 1) = (i : Int) + 1 := IntWalk.i64_in _ (by omega)
        obtain ⟨b, off, rfl, hat⟩ := HO.out.2 i hlt
        generalize hx : ops i = x at *
        obtain ⟨c0, c1, c2, c3, c4, c5⟩ := hat.fr hI.fr
        obtain ⟨k, hk, hkN⟩ : ∃ k : Nat, x.on % (N : Int) = (k : Int) ∧ k < N := by
          have h1 := Int.emod_nonneg x.on (show (N : Int) ≠ 0 by omega)
          have h2 := Int.emod_lt_of_pos x.on (show (0 : Int) < N by omega)
          exact ⟨(x.on % (N : Int)).toNat, by omega, by omega⟩
        have HP := Lib.hid (fun W => (place_bigS x.on N (by omega) (by omega) x.fo.1 x.fo.2 W))
        rw [hk] at HP
        have hkN' : (k : Int) < (N : Int) := by omega
        have hk0 : (0 : Int) ≤ (k : Int) := by omega
        have hfa := x.fa.2
        obtain ⟨WX, hWX⟩ : ∃ WX, wr.alloc (.cells #[.int .i64 x.on, .int .i64 x.kind, .int .i64 x.part, .int .i64 x.a, .int .i64 x.b, .string x.s] 24) = WX := ⟨_, rfl⟩
        have hB : SdB w WX N P Q Z D D gx cx gy cy wr.heap.size x := ⟨by rw [← hWX]; exact hI.to ((Fr.refl [] wr).alloc _), by rw [← hWX]; exact Blk.new wr 24 _⟩
        obtain ⟨x0, y0, m0, m1, m2, m3, m4, m5⟩ := hB.cells hkN
        have HWX := Lib.hid hWX
        clear hat hx hk hi hNi HI0 hI
        rcases (by omega : x.kind = 0 ∨ x.kind = 1 ∨ x.kind = 2 ∨ x.kind = 3 ∨ (x.kind ≠ 0 ∧ x.kind ≠ 1 ∧ x.kind ≠ 2 ∧ x.kind ≠ 3)) with kd | kd | kd | kd | ⟨n0, n1, n2, n3⟩
        · skip
          have e0 : (x.kind == 0) = true := by rw [kd]; rfl
          clear kd
          go_upto_region 15 with (go_at_call 16; refine (HP.out _).mono ?_; rintro e w1 ⟨rfl, rfl⟩)
          generalize hbX : wr.heap.size = bX at *
          have HB := Lib.hid (hB.to (Fr.refl [] _).drew)
          have k1 := HB.out.cells hkN
          clear hB
          go_wp2_with fail
          go_region_held3 (fun W => W.cell? ⟨gx, k, none⟩ = some (ptr (P k)) ∧ W.cell? ⟨gy, k, none⟩ = some (ptr (Q k)) ∧ W.cell? ⟨bX, 0, none⟩ = some (.int .i64 x.on) ∧ W.cell? ⟨bX, 1, none⟩ = some (.int .i64 x.kind) ∧ W.cell? ⟨bX, 2, none⟩ = some (.int .i64 x.part) ∧ W.cell? ⟨bX, 3, none⟩ = some (.int .i64 x.a) ∧ W.cell? ⟨bX, 4, none⟩ = some (.int .i64 x.b) ∧ W.cell? ⟨bX, 5, none⟩ = some (.string x.s)) (first | exact kk | exact k1) (first
            | (go_at_call 17; refine (HB.out.load hkN x.part x.s).mono ?_; rintro e w8 ⟨rfl, h8⟩; have H8 := Lib.hid h8; have kk := h8.cells hkN; clear h8)
            | (go_at_call 22; refine (H8.out.rload hkN x.part x.s).mono ?_; rintro e w9 ⟨rfl, h9⟩; have H9 := Lib.hid h9; have kk := h9.cells hkN; clear h9))
          clear k1 kk
          go_wp2_with fail
          go_roundg (n - (i + 1))
          case measure => have := Hi.out; omega
          case rel => exact ⟨i + 1, N, P, Q, Z, _, gx, cx, gy, cy, by have := Hi.out; omega, by go_num, by have := HNi.out; omega, rfl, rfl, H9.out.i⟩
        · skip
          have e0 : (x.kind == 0) = false := by rw [kd]; rfl
          have e1 : (x.kind == 1) = true := by rw [kd]; rfl
          clear kd
          go_upto_region 18 with (go_at_call 16; refine (HP.out _).mono ?_; rintro e w1 ⟨rfl, rfl⟩)
          generalize hbX : wr.heap.size = bX at *
          have HB := Lib.hid (hB.to (Fr.refl [] _).drew)
          have k1 := HB.out.cells hkN
          have HG := Lib.hid (HB.out.get hkN x.part x.a x.b hfa)
          have HR := Lib.hid (fun W (h : SdB w W N P Q Z D D gx cx gy cy bX x) => h.rget hkN x.part x.a x.b hfa)
          generalize inV (D k) x.part x.a x.b = V at *
          generalize inE (D k) x.part x.a x.b = Ee at *
          clear hB
          go_wp2_with fail
          go_region_held3 (fun W => W.cell? ⟨gx, k, none⟩ = some (ptr (P k)) ∧ W.cell? ⟨gy, k, none⟩ = some (ptr (Q k)) ∧ W.cell? ⟨bX, 0, none⟩ = some (.int .i64 x.on) ∧ W.cell? ⟨bX, 1, none⟩ = some (.int .i64 x.kind) ∧ W.cell? ⟨bX, 2, none⟩ = some (.int .i64 x.part) ∧ W.cell? ⟨bX, 3, none⟩ = some (.int .i64 x.a) ∧ W.cell? ⟨bX, 4, none⟩ = some (.int .i64 x.b) ∧ W.cell? ⟨bX, 5, none⟩ = some (.string x.s)) (first | exact kk | exact k1) (first
            | (go_at_call 20; refine HG.out.mono ?_; rintro e w8 ⟨rfl, h8⟩; have H8 := Lib.hid h8; have kk := h8.cells hkN; clear h8))
          have H8d := Lib.hid (H8.out.to (Fr.refl [] _).drew)
          have k2 := H8d.out.cells hkN
          clear k1 kk
          go_wp2_with fail
          go_region_held3 (fun W => W.cell? ⟨gx, k, none⟩ = some (ptr (P k)) ∧ W.cell? ⟨gy, k, none⟩ = some (ptr (Q k)) ∧ W.cell? ⟨bX, 0, none⟩ = some (.int .i64 x.on) ∧ W.cell? ⟨bX, 1, none⟩ = some (.int .i64 x.kind) ∧ W.cell? ⟨bX, 2, none⟩ = some (.int .i64 x.part) ∧ W.cell? ⟨bX, 3, none⟩ = some (.int .i64 x.a) ∧ W.cell? ⟨bX, 4, none⟩ = some (.int .i64 x.b) ∧ W.cell? ⟨bX, 5, none⟩ = some (.string x.s)) (first | exact kk | exact k2) (first
            | (go_at_call 23; refine (HR.out _ H8d.out).mono ?_; rintro e w9 ⟨rfl, h9⟩; have H9 := Lib.hid h9; have kk := h9.cells hkN; clear h9))
          clear k2 kk
          go_wp2_with fail
          go_roundg (n - (i + 1))
          case measure => have := Hi.out; omega
          case rel => exact ⟨i + 1, N, P, Q, Z, _, gx, cx, gy, cy, by have := Hi.out; omega, by go_num, by have := HNi.out; omega, rfl, rfl, H9.out.i⟩
        · skip
          have e0 : (x.kind == 0) = false := by rw [kd]; rfl
          have e1 : (x.kind == 1) = false := by rw [kd]; rfl
          have e2 : (x.kind == 2) = true := by rw [kd]; rfl
          clear kd
          go_upto_region 23 with (go_at_call 16; refine (HP.out _).mono ?_; rintro e w1 ⟨rfl, rfl⟩)
          generalize hbX : wr.heap.size = bX at *
          have HB := Lib.hid (hB.to (Fr.refl [] _).drew)
          have k1 := HB.out.cells hkN
          clear hB
          go_wp2_with fail
          go_region_held3 (fun W => W.cell? ⟨gx, k, none⟩ = some (ptr (P k)) ∧ W.cell? ⟨gy, k, none⟩ = some (ptr (Q k)) ∧ W.cell? ⟨bX, 0, none⟩ = some (.int .i64 x.on) ∧ W.cell? ⟨bX, 1, none⟩ = some (.int .i64 x.kind) ∧ W.cell? ⟨bX, 2, none⟩ = some (.int .i64 x.part) ∧ W.cell? ⟨bX, 3, none⟩ = some (.int .i64 x.a) ∧ W.cell? ⟨bX, 4, none⟩ = some (.int .i64 x.b) ∧ W.cell? ⟨bX, 5, none⟩ = some (.string x.s)) (first | exact kk | exact k1) (first
            | (go_at_call 19; refine (HB.out.put hkN x.part x.a x.s hfa).mono ?_; rintro e w8 ⟨rfl, h8⟩; have H8 := Lib.hid h8; have kk := h8.cells hkN; clear h8)
            | (go_at_call 24; refine (H8.out.rput hkN x.part x.a x.s hfa).mono ?_; rintro e w9 ⟨rfl, h9⟩; have H9 := Lib.hid h9; have kk := h9.cells hkN; clear h9))
          clear k1 kk
          go_wp2_with fail
          go_roundg (n - (i + 1))
          case measure => have := Hi.out; omega
          case rel => exact ⟨i + 1, N, P, Q, Z, _, gx, cx, gy, cy, by have := Hi.out; omega, by go_num, by have := HNi.out; omega, rfl, rfl, H9.out.i⟩
        · skip
          have e0 : (x.kind == 0) = false := by rw [kd]; rfl
          have e1 : (x.kind == 1) = false := by rw [kd]; rfl
          have e2 : (x.kind == 2) = false := by rw [kd]; rfl
          have e3 : (x.kind == 3) = true := by rw [kd]; rfl
          clear kd
          go_upto_region 26 with (go_at_call 16; refine (HP.out _).mono ?_; rintro e w1 ⟨rfl, rfl⟩)
          generalize hbX : wr.heap.size = bX at *
          have HS1k : Hid (Sp1 (D k)) := Lib.hid (by obtain ⟨_, _, _, _, _, _, -, -, -, -, h1, -⟩ := hB.i.du.pair k hkN; exact h1)
          have H25 := Lib.hid (hB.i.du.copy hkN)
          have HBx := Lib.hid hB
          clear hB m0 m1 m2 m3 m4 m5
          go_wp2_with (first
            | (at_builtin; (refine wpList_append_own _ rfl (.tmp 158) (.tmp 160) 42 rfl w.heap.size 25 i1 (.pointer none) 1 8 Try.underlying42 hi1 hz1 hs1 hb1 rfl (Nat.succ_pos 0) (.slice (some ⟨gx, 0, none⟩) N cx) N (ptrs P N) rfl H3.out.xs ⟨w2.heap.size, 0, none⟩ 1 1 [ptr s'] rfl rfl Hn3.out (by simp [Value.oneCell']) hm1 hm2 H3.out.size ?_; intro v4 w4 hown4 hg4 hnn4; obtain ⟨gx', cx', rfl, h4⟩ := H3.out.pushx hown4 hg4; have H4 := Lib.hid h4; have H26 := Lib.hid (h4.rcopy hkN); have y4 := own_ptr h4.ys hkN; clear h4 hown4 hg4 hnn4))
            | (at_builtin; (refine wpList_append_own _ rfl (.tmp 162) (.tmp 168) 43 rfl w.heap.size 39 i2 (.pointer none) 1 8 Try.underlying43 hi2 hz2 hs2 hb2 rfl (Nat.succ_pos 0) (.slice (some ⟨gy, 0, none⟩) N cy) N (ptrs Q N) rfl H6.out.1.ys ⟨w5.heap.size, 0, none⟩ 1 1 [ptr yy] rfl rfl Hn6.out (by simp [Value.oneCell']) hm1 hm2 H6.out.1.size ?_; intro v7 w7 hown7 hg7 hnn7; obtain ⟨gy', cy', rfl, hI7⟩ := H6.out.2 _ _ hown7 hg7; have HI7 := Lib.hid hI7; clear hown7 hg7 hnn7 hI7))
            | (go_at_call 26; refine H26.out.mono ?_; rintro e w5 ⟨yy, q', G', g2, rfl, hR5, hf5, r1, r2, r3, r4⟩
               have H6 : Hid (ClS w (w5.alloc (.cells #[ptr yy] 39)) N bX WX.heap.size s' p' F' g' x (D k) P (at1 P N s') Q Z D (N + 1) gx' cx' gy cy ∧ ∀ v w', w'.ownsRow w.heap.size 39 1 v (N + 1) (ptrs Q N ++ [ptr yy]) → (w5.alloc (.cells #[ptr yy] 39)).grownBy w' (Value.ownBlock (.slice (some ⟨gy, 0, none⟩) N cy)) → ∃ gy' cy', v = .slice (some ⟨gy', 0, none⟩) (N + 1) cy' ∧ SdI w w' (N + 1) (at1 P N s') (at1 Q N yy) (at1 Z N [s', p', F', g', yy, q', G', g2]) (at1 D N (D k)) (at1 D N (D k)) gx' cx' gy' cy') := by
                 have hC := H4.out.to (hf5.alloc (.cells #[ptr yy] 39))
                 have hlt := H4.out.at_.lt.2.2.2
                 have hbs := H4.out.hs
                 exact Lib.hid ⟨hC, fun v w' ho hg => hC.pushy (hR5.to ((Fr.refl [] w5).alloc _)) (by omega) HS1k.out (Nat.le_trans hbs r1) (Nat.le_trans hbs r2) (Nat.le_trans hbs r3) (Nat.le_trans hbs r4) ho hg⟩
               have Hn6 := Lib.hid (news1 ((Blk.new w5 39 #[ptr yy]).cell 0))
               clear hR5 hf5 r1 r2 r3 r4)
            | (go_at_call 25; refine H25.out.mono ?_; rintro e w2 ⟨s', p', F', g', rfl, hD2, hf2, b1, b2, b3, b4⟩; have H3 := Lib.hid ((HBx.out.clS hf2 hD2 b1 b2 b3 b4).to ((Fr.refl [] w2).alloc (.cells #[ptr s'] 25))); have Hn3 := Lib.hid (news1 ((Blk.new w2 25 #[ptr s']).cell 0)); clear hD2 hf2 b1 b2 b3 b4))
          go_roundg (n - (i + 1))
          case measure => have := Hi.out; omega
          case rel => exact ⟨i + 1, N + 1, _, _, _, _, gx', cx', gy', cy', by have := Hi.out; omega, by go_num, by have := HNi.out; omega, rfl, rfl, HI7.out⟩
        · skip
          have e0 : (x.kind == 0) = false := by simpa using n0
          have e1 : (x.kind == 1) = false := by simpa using n1
          have e2 : (x.kind == 2) = false := by simpa using n2
          have e3 : (x.kind == 3) = false := by simpa using n3
          have HB := Lib.hid hB
          clear n0 n1 n2 n3 hB
          go_wp2_with (go_at_call 16; refine (HP.out _).mono ?_; rintro e w1 ⟨rfl, rfl⟩)
          go_roundg (n - (i + 1))
          case measure => have := Hi.out; omega
          case rel => exact ⟨i + 1, N, P, Q, Z, _, gx, cx, gy, cy, by have := Hi.out; omega, by go_num, by have := HNi.out; omega, rfl, rfl, HB.out.i⟩
      · have hlt' : ¬ (i : Int) < (n : Int) := by omega
        have HI := Lib.hid hI
        clear hi hNi hI HI0 HO hi1 hz1 hs1 hb1 hi2 hz2 hs2 hb2 Hi HNi
        go_wp2_with fail
        go_loopg [19] N (fun gg v17 W => ∃ (j : Nat), j + gg = N ∧ v17 = .int .i64 (j : Int) ∧ SdI w W N P Q Z D D gx cx gy cy)
        case atStart => exact ⟨0, by omega, rfl, HI.out⟩
        case round =>
          obtain ⟨j, hj, rfl, hI⟩ := hrel
          have Hj := Lib.hid hj
          clear HI
          by_cases hlj : j < N
          · have hlj' : (j : Int) < (N : Int) := by omega
            have hj0 : (0 : Int) ≤ (j : Int) := by omega
            have hwj : IntKind.i64.wrap ((j : Int) + 1) = (j : Int) + 1 := IntWalk.i64_in _ (by omega)
            have HI3 := Lib.hid (hI.to (Fr.refl [] _).drew)
            have j0 := HI3.out.cells hlj
            have y00 := hI.cells hlj
            clear hI hj
            go_wp2_with fail
            go_region_held3 (fun W => W.cell? ⟨gx, j, none⟩ = some (ptr (P j)) ∧ W.cell? ⟨gy, j, none⟩ = some (ptr (Q j)))
              (first | exact jj | exact j0) (first | (go_at_call 27; refine (HI3.out.du.same hlj).mono ?_; rintro e w9 ⟨rfl, hf9⟩; have HI4 := Lib.hid (HI3.out.to hf9); have jj := HI4.out.cells hlj; clear hf9))
            clear j0 jj
            go_wp2_with fail
            go_roundg (N - (j + 1))
            case measure => have := Hj.out; omega
            case rel => exact ⟨j + 1, by have := Hj.out; omega, by go_num, HI4.out⟩
          · have hlj' : ¬ (j : Int) < (N : Int) := by omega
            have HFr := Lib.hid hI.fr
            clear hI hj
            go_wp2_with (go_at_call 15; refine (HF.out _).mono ?_; rintro e w3 ⟨rfl, hf3⟩)
            go_ret
            exact ⟨rfl, HFr.out.trans hf3⟩
  · have HNw := Lib.hid (SNew_bad b m cap A t w ht h0)
    have HRn := Lib.hid (fun W (hf : Fr [] w W) => rSNew_bad b m cap A t W (ht.fr hf (by simp)) h0)
    clear ho
    go_enter Try.func4, Try.ntmps4
    go_wp2_with (first
      | (go_at_call 13; refine HNw.out.mono ?_; rintro e w1 ⟨rfl, hf1⟩; have Hf1 := Lib.hid hf1; clear hf1)
      | (go_at_call 21; refine (HRn.out _ Hf1.out).mono ?_; rintro e w2 ⟨rfl, rfl⟩)
      | (go_at_call 15; refine (HF.out _).mono ?_; rintro e w3 ⟨rfl, hf3⟩))
    go_ret
    exact ⟨rfl, Hf1.out.trans hf3⟩
end Go.Proofs.Ytonongaakieciaa

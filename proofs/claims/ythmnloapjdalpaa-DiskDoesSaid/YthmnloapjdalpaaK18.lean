/- DiskDoes: the walk. -/
import Derived.Test.YthmnloapjdalpaaK17
namespace Go.Proofs.Ythmnloapjdalpaa
open Go.RowKit
set_option linter.unusedVariables false
set_option linter.unusedSimpArgs false
set_option maxRecDepth 100000 in
set_option maxHeartbeats 4000000 in
theorem does_walk (t : ByteArray) (w : World) (A : Option Addr) (n cap : Nat) (ops : Nat → OpD) (ht : t.size ≤ maxLen) (ho : OpsD w (.slice A n cap) n ops) (h8s : ∀ i, i < n → (ops i).ch.length * 8 ≤ 140737488355328) (hn8 : (n + 1) * 8 ≤ 140737488355328) :
    Calls Try.prog 14 #[.string t, .slice A n cap] w fun e w' => e = .returned (.bool true) ∧ Fr [] w w' := by
  have HF := Lib.hid (fun W => fixed07_any W)
  by_cases h0 : newE t = 0
  · have HNw := Lib.hid (New_ok t w h0)
    have HRn := Lib.hid (fun W => rNew_ok t W h0)
    have HO := Lib.hid ho
    have H8 := Lib.hid h8s
    obtain ⟨i1, hi1, hz1, hs1, hb1⟩ := info3 Try.info36
    obtain ⟨i2, hi2, hz2, hs2, hb2⟩ := info3 Try.info61
    clear ho h0 h8s
    go_enter Try.func14, Try.ntmps14
    go_upto_region 7 with (first
      | (go_at_call 22; refine HNw.out.mono ?_; rintro e w1 ⟨p, g, m, rfl, hD1, hf1, b1, b2, b3⟩; have HD1 := Lib.hid hD1; have Hf1 := Lib.hid hf1; clear hD1 hf1)
      | (go_at_call 35; refine (HRn.out _).mono ?_; rintro e w2 ⟨q, rfl, hR2, hf2, b4⟩; have HR2 := Lib.hid hR2; have Hf2 := Lib.hid hf2; clear hR2 hf2))
    have hs1w := Hf1.out.size
    have hdu : Duos w w2 1 (at1 (fun _ => 0) 0 p) (at1 (fun _ => 0) 0 q) (at1 (fun _ => []) 0 [p, g, m, q]) (at1 (fun _ => newD t) 0 (newD t)) := Duos.push (Duos.none w (fun _ => 0) (fun _ => 0) (fun _ => []) (fun _ => newD t)) (Hf1.out.trans Hf2.out) (HD1.out.to Hf2.out) HR2.out b1 b2 b3 (by omega)
    have hs2w := hdu.fr.size
    have HI0 : Hid (DoI w ((w2.alloc (.cells #[ptr p] 36)).alloc (.cells #[ptr q] 61)) 1 (at1 (fun _ => 0) 0 p) (at1 (fun _ => 0) 0 q) (at1 (fun _ => []) 0 [p, g, m, q]) (at1 (fun _ => newD t) 0 (newD t)) w2.heap.size 1 (w2.heap.size + 1) 1) := by
      have hr1 : (w2.alloc (.cells #[ptr p] 36)).ownsRow w.heap.size 36 1 (.slice (some ⟨w2.heap.size, 0, none⟩) 1 1) 1 [ptr p] := own_made1 w2 w.heap.size 36 (ptr p) hs2w
      have hr2 : ((w2.alloc (.cells #[ptr p] 36)).alloc (.cells #[ptr q] 61)).ownsRow w.heap.size 61 1 (.slice (some ⟨w2.heap.size + 1, 0, none⟩) 1 1) 1 [ptr q] := by
        have := own_made1 (w2.alloc (.cells #[ptr p] 36)) w.heap.size 61 (ptr q) (by rw [World.size_alloc]; omega)
        rw [World.size_alloc] at this
        exact this
      refine Lib.hid ⟨hdu.to (((Fr.refl [] w2).alloc _).alloc _), Nat.le_refl _, ?_, ?_⟩
      · exact own_fr hr1 ((Fr.refl [] _).alloc _) (by simp)
      · exact hr2
    clear hdu b1 b2 b3 b4 hs1w HD1 HR2 Hf1 Hf2 HNw HRn hs2w
    go_wp2_with fail
    go_loopg [9, 10, 11] n (fun gg v9 v10 v11 wr => ∃ (i N : Nat) (P Q : Nat → Nat) (Z : Nat → List Nat) (D : Nat → Dk) (gx cx gy cy : Nat), i + gg = n ∧ v11 = .int .i64 (i : Int) ∧ N ≤ i + 1 ∧ v9 = .slice (some ⟨gx, 0, none⟩) N cx ∧ v10 = .slice (some ⟨gy, 0, none⟩) N cy ∧ DoI w wr N P Q Z D gx cx gy cy)
    case atStart => exact ⟨0, 1, _, _, _, _, w2.heap.size, 1, w2.heap.size + 1, 1, by omega, rfl, by omega, rfl, rfl, HI0.out⟩
    case round =>
      obtain ⟨i, N, P, Q, Z, D, gx, cx, gy, cy, hi, rfl, hNi, rfl, rfl, hI⟩ := hrel
      have Hi := Lib.hid hi
      have HNi := Lib.hid hNi
      have hN1 := hI.n1
      have hNi' : (N : Int) ≤ 17592186044417 := by omega
      by_cases hlt : i < n
      · have hlt' : (i : Int) < (n : Int) := by omega
        have hm1 : N + 1 ≤ maxLen := by simp only [maxLen]; omega
        have hm2 : (N + 1) * 8 ≤ 140737488355328 := by omega
        have hi0' : (0 : Int) ≤ (i : Int) := by omega
        have hwi : IntKind.i64.wrap ((i : Int) + 1) = (i : Int) + 1 := IntWalk.i64_in _ (by omega)
        obtain ⟨hF, b, off, cv, rfl, hat⟩ := HO.out.at_ hlt
        have h8 := H8.out i hlt
        generalize hx : ops i = x at *
        obtain ⟨cA, cc, rfl, -⟩ := (show Zw w cv x.ch from hat.z)
        have HCh := Lib.hid hat.z
        have HC := Lib.hid (fun W (hf : Fr [] w W) => (hat.fr hf).seven)
        obtain ⟨c0, c1, c2, c3, c4, c5, c6⟩ := HC.out _ hI.fr
        have hone := wf_le hF.on
        obtain ⟨k, hk, hkN⟩ : ∃ k : Nat, x.on % (N : Int) = (k : Int) ∧ k < N := by
          have h1 := Int.emod_nonneg x.on (show (N : Int) ≠ 0 by omega)
          have h2 := Int.emod_lt_of_pos x.on (show (0 : Int) < N by omega)
          exact ⟨(x.on % (N : Int)).toNat, by omega, by omega⟩
        have HP := Lib.hid (fun W => (place_big x.on N (by omega) (by omega) hone.1 hone.2 W))
        rw [hk] at HP
        have hkN' : (k : Int) < (N : Int) := by omega
        have hk0 : (0 : Int) ≤ (k : Int) := by omega
        generalize hcl : x.ch.length = cl at *
        obtain ⟨WX, hWX⟩ : ∃ WX, wr.alloc (.cells #[.int .i64 x.on, .int .i64 x.kind, .int .i64 x.a, .int .i64 x.b, .int .u8 (x.c.toNat : Int), .string x.s, .slice cA cl cc] 94) = WX := ⟨_, rfl⟩
        have hbx := Blk.new wr 94 #[.int .i64 x.on, .int .i64 x.kind, .int .i64 x.a, .int .i64 x.b, .int .u8 (x.c.toNat : Int), .string x.s, .slice cA cl cc]
        have hI := hI.to ((Fr.refl [] wr).alloc (.cells #[.int .i64 x.on, .int .i64 x.kind, .int .i64 x.a, .int .i64 x.b, .int .u8 (x.c.toNat : Int), .string x.s, .slice cA cl cc] 94))
        rw [hWX] at hbx hI
        have HBX := Lib.hid (fun W (h : Blk W wr.heap.size 94 #[.int .i64 x.on, .int .i64 x.kind, .int .i64 x.a, .int .i64 x.b, .int .u8 (x.c.toNat : Int), .string x.s, .slice cA cl cc]) => (show W.cell? ⟨wr.heap.size, 0, none⟩ = some (.int .i64 x.on) ∧ W.cell? ⟨wr.heap.size, 1, none⟩ = some (.int .i64 x.kind) ∧ W.cell? ⟨wr.heap.size, 2, none⟩ = some (.int .i64 x.a) ∧ W.cell? ⟨wr.heap.size, 3, none⟩ = some (.int .i64 x.b) ∧ W.cell? ⟨wr.heap.size, 4, none⟩ = some (.int .u8 (x.c.toNat : Int)) ∧ W.cell? ⟨wr.heap.size, 5, none⟩ = some (.string x.s) ∧ W.cell? ⟨wr.heap.size, 6, none⟩ = some (.slice cA cl cc) from ⟨h.cell 0, h.cell 1, h.cell 2, h.cell 3, h.cell 4, h.cell 5, h.cell 6⟩))
        obtain ⟨m0, m1, m2, m3, m4, m5, m6⟩ := HBX.out _ hbx
        obtain ⟨x0, y0⟩ := hI.cells hkN
        have HWX := Lib.hid hWX
        clear hat hx hk hone hi hNi hcl HC HI0
        by_cases hk6 : x.kind = 6
        · have hd6 : (x.kind == 6) = true := beq_iff_eq.2 hk6
          clear hk6
          go_upto_region 14 with (go_at_call 47; refine (HP.out _).mono ?_; rintro e w1 ⟨rfl, rfl⟩)
          generalize hbX : wr.heap.size = bX at *
          obtain ⟨g, m, -, hDa, -⟩ := hI.du.pair k hkN
          have H37 := Lib.hid (Clone_any (P k) g m (D k) WX hDa)
          have HIx := Lib.hid hI
          have Hbx := Lib.hid hbx
          clear hI hbx hDa m0 m1 m2 m3 m4 m5 m6
          go_upto_region 19 with (first
            | (at_builtin; (refine wpList_append_own _ rfl (.tmp 71) (.tmp 73) 91 rfl w.heap.size 36 i1 (.pointer none) 1 8 Try.underlying91 hi1 hz1 hs1 hb1 rfl (Nat.succ_pos 0) (.slice (some ⟨gx, 0, none⟩) N cx) N (ptrs P N) rfl H3.out.xs ⟨w2.heap.size, 0, none⟩ 1 1 [ptr p'] rfl rfl Hn3.out (by simp [Value.oneCell']) hm1 hm2 H3.out.size ?_; intro v4 w4 hown4 hg4 hnn4; obtain ⟨gx', cx', rfl, h4⟩ := H3.out.pushx hown4 hg4; have H4 := Lib.hid h4; have H38 := Lib.hid (rCopy_any (Q k) (D k) w4 (h4.rd hkN)); have y4 := own_ptr h4.ys hkN; clear h4 hown4 hg4 hnn4))
            | (at_builtin; (refine wpList_append_own _ rfl (.tmp 75) (.tmp 81) 92 rfl w.heap.size 61 i2 (.pointer none) 1 8 Try.underlying92 hi2 hz2 hs2 hb2 rfl (Nat.succ_pos 0) (.slice (some ⟨gy, 0, none⟩) N cy) N (ptrs Q N) rfl H6.out.ys ⟨w5.heap.size, 0, none⟩ 1 1 [ptr r] rfl rfl Hn6.out (by simp [Value.oneCell']) hm1 hm2 H6.out.size ?_; intro v7 w7 hown7 hg7 hnn7; obtain ⟨gy', cy', rfl, hI, hbx⟩ := H6.out.pushy HR6.out HBr.out hown7 hg7; clear hown7 hg7 hnn7))
            | (go_at_call 38; refine H38.out.mono ?_; rintro e w5 ⟨r, rfl, hR5, hr5, hf5⟩; have H6 := Lib.hid (H4.out.to (hf5.alloc (.cells #[ptr r] 61))); have HR6 := Lib.hid (hR5.to ((Fr.refl [] w5).alloc (.cells #[ptr r] 61))); have Hn6 := Lib.hid (news1 ((Blk.new w5 61 #[ptr r]).cell 0)); have HBr := Lib.hid (Nat.le_trans H4.out.cl.hs hr5); clear hR5 hr5 hf5)
            | (go_at_call 37; refine H37.out.mono ?_; rintro e w2 ⟨p', g', m', rfl, hD2, hf2, b1, b2, b3⟩; have H3 := Lib.hid ((HIx.out.clA Hbx.out hf2 hD2 b1 b2 b3).to ((Fr.refl [] w2).alloc (.cells #[ptr p'] 36))); have Hn3 := Lib.hid (news1 ((Blk.new w2 36 #[ptr p']).cell 0)); clear hD2 hf2 b1 b2 b3))
          clear H3 H4 H6 HIx Hbx Hn3 Hn6 HR6 HBr H37 H38 x0 y0 y4
          have hkN2 := hkN
          have hkN : k < N + 1 := by omega
          clear hkN' hm1 hm2
          generalize hM : N + 1 = M at *
          have HM := Lib.hid hM
          clear hM
          have hkN' : (k : Int) < (M : Int) := by omega
          generalize at1 P N p' = P2 at *
          generalize at1 Q N r = Q2 at *
          generalize at1 Z N [p', g', m', r] = Z2a at *
          generalize at1 D N (D k) = D2a at *
          have Hbn : bX ∉ Z2a k := fun hk => hI.du.not hkN (t := 94) (by decide) (by decide) (by decide) _ hk _ _ hbx
          have HI := Lib.hid (hI.to (Fr.refl [] _).drew)
          have HA := Lib.hid (hI.playA hkN (Fr.refl [] _).drew hF HCh.out h8)
          have Hbd := Lib.hid (hbx.fr (Fr.refl [] _).drew (by simp))
          have HbnH := Lib.hid Hbn
          have k0 := And.intro (HI.out.cells hkN).1 (And.intro (HI.out.cells hkN).2 (HBX.out _ Hbd.out))
          clear hI hbx Hbn
          go_wp2_with fail
          go_region_held3 (fun W => W.cell? ⟨gx', k, none⟩ = some (ptr (P2 k)) ∧ W.cell? ⟨gy', k, none⟩ = some (ptr (Q2 k)) ∧ W.cell? ⟨bX, 0, none⟩ = some (.int .i64 x.on) ∧ W.cell? ⟨bX, 1, none⟩ = some (.int .i64 x.kind) ∧ W.cell? ⟨bX, 2, none⟩ = some (.int .i64 x.a) ∧ W.cell? ⟨bX, 3, none⟩ = some (.int .i64 x.b) ∧ W.cell? ⟨bX, 4, none⟩ = some (.int .u8 (x.c.toNat : Int)) ∧ W.cell? ⟨bX, 5, none⟩ = some (.string x.s) ∧ W.cell? ⟨bX, 6, none⟩ = some (.slice cA cl cc))
            (first | exact kk | exact k0) (first | (go_at_call 51; refine (plays_any HA.out).mono ?_; rintro e w8 ⟨rfl, d', hp⟩; have hb8 := Hbd.out.fr hp.fr HbnH.out; obtain ⟨Z2, D2, hI2⟩ := HI.out.turn hkN hp; have kk := And.intro (hI2.cells hkN).1 (And.intro (hI2.cells hkN).2 (HBX.out _ hb8)); have HI2 := Lib.hid hI2; clear hI2 hb8 hp))
          have HI3 := Lib.hid (HI2.out.to (Fr.refl [] _).drew)
          have j0 := HI3.out.cells hkN
          clear k0 kk
          go_wp2_with fail
          go_region_held3 (fun W => W.cell? ⟨gx', k, none⟩ = some (ptr (P2 k)) ∧ W.cell? ⟨gy', k, none⟩ = some (ptr (Q2 k)))
            (first | exact jj | exact j0) (first | (go_at_call 52; refine (tells_any (HI3.out.du.prz hkN)).mono ?_; rintro e w9 ⟨rfl, hf9⟩; have HI4 := Lib.hid (HI3.out.to hf9); have jj := HI4.out.cells hkN; clear hf9))
          clear j0 jj
          go_wp2_with fail
          go_roundg (n - (i + 1))
          case measure => have := Hi.out; omega
          case rel => exact ⟨i + 1, M, P2, Q2, Z2, D2, gx', cx', gy', cy', by have := Hi.out; omega, by go_num, by have := HNi.out; have := HM.out; omega, rfl, rfl, HI4.out⟩
        · have hk6' : ¬ x.kind = 6 := hk6
          go_upto_region 19 with (go_at_call 47; refine (HP.out _).mono ?_; rintro e w1 ⟨rfl, rfl⟩)
          generalize hbX : wr.heap.size = bX at *
          have Hbn : bX ∉ Z k := fun hk => hI.du.not hkN (t := 94) (by decide) (by decide) (by decide) _ hk _ _ hbx
          have HI := Lib.hid (hI.to (Fr.refl [] _).drew)
          have HA := Lib.hid (hI.playA hkN (Fr.refl [] _).drew hF HCh.out h8)
          have Hbd := Lib.hid (hbx.fr (Fr.refl [] _).drew (by simp))
          have HbnH := Lib.hid Hbn
          have k0 := And.intro (HI.out.cells hkN).1 (And.intro (HI.out.cells hkN).2 (HBX.out _ Hbd.out))
          clear hI hbx Hbn
          go_wp2_with fail
          go_region_held3 (fun W => W.cell? ⟨gx, k, none⟩ = some (ptr (P k)) ∧ W.cell? ⟨gy, k, none⟩ = some (ptr (Q k)) ∧ W.cell? ⟨bX, 0, none⟩ = some (.int .i64 x.on) ∧ W.cell? ⟨bX, 1, none⟩ = some (.int .i64 x.kind) ∧ W.cell? ⟨bX, 2, none⟩ = some (.int .i64 x.a) ∧ W.cell? ⟨bX, 3, none⟩ = some (.int .i64 x.b) ∧ W.cell? ⟨bX, 4, none⟩ = some (.int .u8 (x.c.toNat : Int)) ∧ W.cell? ⟨bX, 5, none⟩ = some (.string x.s) ∧ W.cell? ⟨bX, 6, none⟩ = some (.slice cA cl cc))
            (first | exact kk | exact k0) (first | (go_at_call 51; refine (plays_any HA.out).mono ?_; rintro e w8 ⟨rfl, d', hp⟩; have hb8 := Hbd.out.fr hp.fr HbnH.out; obtain ⟨Z2, D2, hI2⟩ := HI.out.turn hkN hp; have kk := And.intro (hI2.cells hkN).1 (And.intro (hI2.cells hkN).2 (HBX.out _ hb8)); have HI2 := Lib.hid hI2; clear hI2 hb8 hp))
          have HI3 := Lib.hid (HI2.out.to (Fr.refl [] _).drew)
          have j0 := HI3.out.cells hkN
          clear k0 kk
          go_wp2_with fail
          go_region_held3 (fun W => W.cell? ⟨gx, k, none⟩ = some (ptr (P k)) ∧ W.cell? ⟨gy, k, none⟩ = some (ptr (Q k)))
            (first | exact jj | exact j0) (first | (go_at_call 52; refine (tells_any (HI3.out.du.prz hkN)).mono ?_; rintro e w9 ⟨rfl, hf9⟩; have HI4 := Lib.hid (HI3.out.to hf9); have jj := HI4.out.cells hkN; clear hf9))
          clear j0 jj
          go_wp2_with fail
          go_roundg (n - (i + 1))
          case measure => have := Hi.out; omega
          case rel => exact ⟨i + 1, N, P, Q, Z2, D2, gx, cx, gy, cy, by have := Hi.out; omega, by go_num, by have := HNi.out; omega, rfl, rfl, HI4.out⟩
      · have hlt' : ¬ (i : Int) < (n : Int) := by omega
        have HI := Lib.hid hI
        clear hi hNi hI HI0 HO H8 hi1 hz1 hs1 hb1 hi2 hz2 hs2 hb2 Hi HNi
        go_wp2_with fail
        go_loopg [17] N (fun gg v17 W => ∃ (j : Nat), j + gg = N ∧ v17 = .int .i64 (j : Int) ∧ DoI w W N P Q Z D gx cx gy cy)
        case atStart => exact ⟨0, by omega, rfl, HI.out⟩
        case round =>
          obtain ⟨j, hj, rfl, hI⟩ := hrel
          have Hj := Lib.hid hj
          clear HI
          by_cases hlj : j < N
          · have hlj' : (j : Int) < (N : Int) := by omega
            have hj0 : (0 : Int) ≤ (j : Int) := by omega
            have hwj : IntKind.i64.wrap ((j : Int) + 1) = (j : Int) + 1 := IntWalk.i64_in _ (by omega)
            have HI3 := Lib.hid (hI.to (Fr.refl [] _).drew)
            have j0 := HI3.out.cells hlj
            have y00 := hI.cells hlj
            clear hI hj
            go_wp2_with fail
            go_region_held3 (fun W => W.cell? ⟨gx, j, none⟩ = some (ptr (P j)) ∧ W.cell? ⟨gy, j, none⟩ = some (ptr (Q j)))
              (first | exact jj | exact j0) (first | (go_at_call 52; refine (tells_any (HI3.out.du.prz hlj)).mono ?_; rintro e w9 ⟨rfl, hf9⟩; have HI4 := Lib.hid (HI3.out.to hf9); have jj := HI4.out.cells hlj; clear hf9))
            clear j0 jj
            go_wp2_with fail
            go_roundg (N - (j + 1))
            case measure => have := Hj.out; omega
            case rel => exact ⟨j + 1, by have := Hj.out; omega, by go_num, HI4.out⟩
          · have hlj' : ¬ (j : Int) < (N : Int) := by omega
            have HFr := Lib.hid hI.fr
            clear hI hj
            go_wp2_with (go_at_call 46; refine (HF.out _).mono ?_; rintro e w3 ⟨rfl, hf3⟩)
            go_ret
            exact ⟨rfl, HFr.out.trans hf3⟩
  · have HNw := Lib.hid (New_bad t w ht h0)
    have HRn := Lib.hid (rNew_bad t w ht h0)
    clear ho h8s
    go_enter Try.func14, Try.ntmps14
    go_wp2_with (first
      | (go_at_call 22; refine HNw.out.mono ?_; rintro e w1 ⟨rfl, rfl⟩)
      | (go_at_call 35; refine HRn.out.mono ?_; rintro e w2 ⟨rfl, rfl⟩)
      | (go_at_call 46; refine (HF.out _).mono ?_; rintro e w3 ⟨rfl, hf3⟩))
    go_ret
    exact ⟨rfl, hf3⟩
end Go.Proofs.Ythmnloapjdalpaa

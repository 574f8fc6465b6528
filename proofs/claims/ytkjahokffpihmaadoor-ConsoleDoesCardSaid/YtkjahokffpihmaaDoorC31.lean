/- The reference's console: Reset, New, Copy, Write, Take, Banner. -/
import Derived.Test.YtkjahokffpihmaaDoorC30
namespace Go.Proofs.YtkjahokffpihmaaDoor
open Go.RowKit
set_option linter.unusedVariables false
set_option linter.unusedSimpArgs false
set_option maxRecDepth 100000
set_option maxHeartbeats 1000000 in
theorem rreset_head (w : World) (y : Nat) (x : Con) (hx : x.Ok) (v2 v3 v4 v5 v6 v7 v8 : Value) (hb : Blk w y 62 #[.int .i64 (x.lv : Int), .string x.lg, v2, v3, v4, v5, v6, v7, v8]) : Calls Tryd.prog 28 #[ptr y] w fun e w' => e = .returned (.tuple #[]) ∧ ∃ g r, RAt w' y (reset x) g r ∧ Fr [y] w w' ∧ w.heap.size ≤ g ∧ w.heap.size ≤ r := by
  have c0 := hb.cell 0
  have c5 := hb.cell 5
  simp at c0 c5
  have f5 := hb.frozen 5
  have hlt := hb.lt
  have l1 := hx.l1
  have l8 := hx.l8
  obtain ⟨Z, hmk, hZ⟩ := make_strs x.lv l8
  have hmk' := hmk w
  obtain ⟨W, hW⟩ : ∃ W, (w.setCell ⟨y, 5, none⟩ (.slice (some ⟨w.heap.size, 0, none⟩) x.lv x.lv)).alloc (.cells Z 9) = W := ⟨_, rfl⟩
  have hbW : Blk W y 62 #[.int .i64 (x.lv : Int), .string x.lg, v2, v3, v4, .slice (some ⟨w.heap.size, 0, none⟩) x.lv x.lv, v6, v7, v8] := by
    rw [← hW]
    exact (hb.set_ 5 _).alloc _
  have hk : KeysAt W w.heap.size (List.replicate x.lv empty) := by
    rw [← hW]
    refine ⟨Z, Blk.new' (by simp), fun i t hi => ?_⟩
    rw [List.getElem?_replicate] at hi
    split at hi
    · next hl => injection hi with hi; rw [← hi]; exact hZ i hl
    · cases hi
  have hf : Fr [y] w W := by
    rw [← hW]
    exact ((Fr.refl [y] w).setCell (by simp) _).alloc _
  have hfs := hf.size
  have HT := Lib.hid ((rsecure_head W y _ _ _ _ _ _ _ _ _ hbW).mono (R' := fun e w' => e = .returned (.tuple #[]) ∧ ∃ g r, RAt w' y (reset x) g r ∧ Fr [y] w w' ∧ w.heap.size ≤ g ∧ w.heap.size ≤ r) (fun e w' ⟨he, r, hR, hf', hr⟩ => ⟨he, w.heap.size, r, ⟨⟨x.lv, Nat.le_refl _, hR⟩, hk.fr hf' (by simp; omega), reset_ok hx⟩, hf.trans hf', Nat.le_refl _, by omega⟩))
  have HW := Lib.hid hW
  clear hW hb hbW hk hf hZ hmk hfs
  go_enter Tryd.func28, Tryd.ntmps28
  go_wp2_with fail
  rw [HW.out]
  refine HT.out.mono ?_
  rintro e w' hP
  obtain ⟨rfl, hQ⟩ := hP
  have HQ := Lib.hid hQ
  clear hQ
  go_wp2_with fail
  go_end0
  exact ⟨rfl, HQ.out⟩
theorem rreset_any (w : World) (y g r : Nat) (x : Con) (h : RAt w y x g r) : Calls Tryd.prog 28 #[ptr y] w (RaP w y g r (reset x) (.tuple #[])) := by
  obtain ⟨⟨ck, h1, ⟨cr, hb, h2⟩, hk, oks⟩, hk2, ok⟩ := h
  refine (rreset_head w y x ok _ _ _ _ _ _ _ hb).mono ?_
  rintro e w' ⟨rfl, g', r', hR, hf, hg, hr⟩
  exact ⟨rfl, g', r', hR, hf, .inr hg, .inr hr⟩
/-- What New leaves: a console of its own. -/
def RNew (w : World) (x : Con) (e : Ending) (w' : World) : Prop := ∃ y g r, e = .returned (.tuple #[ptr y, .int .i64 0]) ∧ RAt w' y x g r ∧ Fr [] w w' ∧ w.heap.size ≤ y ∧ w.heap.size ≤ g ∧ w.heap.size ≤ r
set_option maxHeartbeats 1000000 in
theorem rNew_ok (w : World) (L : Nat) (lg : ByteArray) (h : okNew (L : Int) lg = true) : Calls Tryd.prog 10 #[.int .i64 (L : Int), .string lg] w (RNew w (newCon L lg)) := by
  obtain ⟨n', hn', l1, l8, hlg⟩ := okNew_spec h
  obtain rfl : n' = L := by omega
  have hsz : lg.size ≤ maxLen := mx_le (by have := (lgB_spec hlg).2.2; omega)
  have hL := rLogin_any lg hsz
  rw [hlg] at hL
  have HL := Lib.hid hL
  have d1 : ¬ (n' : Int) < 1 := by omega
  have d8 : ¬ (8 : Int) < (n' : Int) := by omega
  have HR : Hid (∀ W, W = w.alloc (.cells #[.int .i64 (n' : Int), .string lg, .int .i64 0, .bool false, .string ⟨#[]⟩, .slice none 0 0, .slice none 0 0, .int .i64 0, .int .i64 0] 62) → Calls Tryd.prog 28 #[ptr w.heap.size] W fun e w' => e = .returned (.tuple #[]) ∧ ∃ g r, RAt w' w.heap.size (newCon n' lg) g r ∧ Fr [] w w' ∧ w.heap.size ≤ g ∧ w.heap.size ≤ r) := Lib.hid (by
    rintro W rfl
    refine (rreset_head _ w.heap.size { con0 n' lg with ks := List.replicate n' empty } (con0_ok l1 l8 hlg) _ _ _ _ _ _ _ (Blk.new w 62 _)).mono ?_
    rintro e w' ⟨rfl, g, r, hR, hf, hg, hr⟩
    have e1 : reset { con0 n' lg with ks := List.replicate n' empty } = newCon n' lg := rfl
    rw [e1] at hR
    simp at hg hr
    exact ⟨rfl, g, r, hR, ((Fr.refl [] w).alloc _).step hf (fun k hk => by simp at hk; exact .inr (by omega)), by omega, by omega⟩)
  clear h hn' l1 l8 hlg hsz hL
  unfold RNew
  go_enter Tryd.func10, Tryd.ntmps10
  go_wp2_with (first
    | (go_at_call 32; refine (HL.out _).mono ?_; rintro e w1 ⟨rfl, rfl⟩)
    | (go_at_call 28; refine (HR.out _ rfl).mono ?_; rintro e w2 ⟨rfl, g, r, hR, hf, hg, hr⟩; have HQ := Lib.hid (And.intro hR (And.intro hf (And.intro hg hr))); clear hR hf hg hr))
  go_ret2
  exact ⟨w.heap.size, g, r, rfl, HQ.out.1, HQ.out.2.1, Nat.le_refl _, HQ.out.2.2.1, HQ.out.2.2.2⟩
/-- What Copy leaves: another block, the same lists. -/
def RCp (w : World) (x : Con) (g r : Nat) (e : Ending) (w' : World) : Prop := ∃ y, e = .returned (ptr y) ∧ RAt w' y x g r ∧ Fr [] w w' ∧ w.heap.size ≤ y
set_option maxHeartbeats 1000000 in
theorem rcopy_any (w : World) (y g r : Nat) (x : Con) (h : RAt w y x g r) : Calls Tryd.prog 30 #[ptr y] w (RCp w x g r) := by
  obtain ⟨⟨ck, h1, ⟨cr, hb, h2⟩, hk, oks⟩, hk2, ok⟩ := h
  have c0 := hb.cell 0
  have c1 := hb.cell 1
  have c2 := hb.cell 2
  have c3 := hb.cell 3
  have c4 := hb.cell 4
  have c5 := hb.cell 5
  have c6 := hb.cell 6
  have c7 := hb.cell 7
  have c8 := hb.cell 8
  simp at c0 c1 c2 c3 c4 c5 c6 c7 c8
  have HQ : Hid (RAt (w.alloc (.cells #[.int .i64 (x.lv : Int), .string x.lg, .int .i64 x.fo, .bool x.ch, .string x.ty, .slice (some ⟨g, 0, none⟩) x.lv ck, .slice (some ⟨r, 0, none⟩) 6 cr, .int .i64 (x.sc.ln : Int), .int .i64 (x.sc.cl : Int)] 62)) w.heap.size x g r) := Lib.hid ⟨⟨ck, h1, ⟨cr, Blk.new w 62 _, h2⟩, hk.fr ((Fr.refl [] w).alloc _) (by simp), oks⟩, hk2.fr ((Fr.refl [] w).alloc _) (by simp), ok⟩
  have HF := Lib.hid ((Fr.refl [] w).alloc (.cells #[.int .i64 (x.lv : Int), .string x.lg, .int .i64 x.fo, .bool x.ch, .string x.ty, .slice (some ⟨g, 0, none⟩) x.lv ck, .slice (some ⟨r, 0, none⟩) 6 cr, .int .i64 (x.sc.ln : Int), .int .i64 (x.sc.cl : Int)] 62))
  clear hb hk hk2 ok oks
  unfold RCp
  go_enter Tryd.func30, Tryd.ntmps30
  go_wp2
  go_ret
  exact ⟨w.heap.size, rfl, HQ.out, HF.out, Nat.le_refl _⟩
set_option maxHeartbeats 1000000 in
theorem rwrite_any (w : World) (y g r : Nat) (x : Con) (h : RAt w y x g r) (l : Int) (t : ByteArray) (ht : t.size ≤ maxLen) : Calls Tryd.prog 25 #[ptr y, .int .i64 l, .string t] w (RaP w y g r (write x l t.data.toList) (.int .i64 (wrE x l))) := by
  have HA := Lib.hid h
  have ok := h.ok
  obtain ⟨⟨ck, h1, hR⟩, hk2, -⟩ := h
  obtain ⟨cr, hb, h2⟩ := hR.b
  have c0 := hb.cell 0
  have c2 := hb.cell 2
  simp at c0 c2
  have hyg := HA.out.ne.1
  have HOK := Lib.hid (write_ok ok l t.data.toList)
  have HD := Lib.hid (rdraw_any w y r _ _ _ _ _ _ _ hR t ht)
  have HK := Lib.hid hk2
  have HCK := Lib.hid h1
  unfold RaP
  by_cases h0 : l < 0
  · have e1 : isL x l = false := by unfold isL; rw [decide_eq_false (by omega)]; rfl
    have ew : write x l t.data.toList = x := by unfold write; rw [if_neg (by rw [e1]; decide)]
    have ee : wrE x l = 221 := by unfold wrE; rw [if_neg (by rw [e1]; decide)]
    rw [ew, ee]
    clear ew ee e1 hb hR hk2 ok HOK
    go_enter Tryd.func25, Tryd.ntmps25
    go_wp2
    go_ret
    exact ⟨rfl, g, r, HA.out, Fr.refl _ _, .inl rfl, .inl rfl⟩
  · by_cases hl : l < (x.lv : Int)
    · have e1 : isL x l = true := by unfold isL; rw [decide_eq_true (by omega), decide_eq_true hl]; rfl
      have ee : wrE x l = 0 := by unfold wrE; rw [if_pos e1]
      rw [ee]
      have d1 : ¬ (x.lv : Int) ≤ l := by omega
      by_cases hf : x.fo = l
      · have ew : write x l t.data.toList = { x with sc := ssays x.sc t.data.toList } := by unfold write; rw [if_pos e1, if_pos hf]
        rw [ew] at HOK ⊢
        have d2 : (x.fo == l) = true := beq_iff_eq.2 hf
        clear ew ee e1 hb hR hk2 ok hf
        go_enter Tryd.func25, Tryd.ntmps25
        go_wp2_with (go_at_call 45; refine HD.out.mono ?_; rintro e w2 ⟨rfl, r', hR', hf', hr'⟩; have HQ := Lib.hid (And.intro hR' (And.intro hf' hr')); clear hR' hf' hr')
        go_ret
        exact ⟨rfl, g, r', ⟨⟨ck, HCK.out, HQ.out.1⟩, KeysAt.fr HK.out HQ.out.2.1 (by simpa using Ne.symm hyg), HOK.out⟩, HQ.out.2.1, .inl rfl, HQ.out.2.2⟩
      · have ew : write x l t.data.toList = x := by unfold write; rw [if_pos e1, if_neg hf]
        rw [ew]
        have d2 : (x.fo == l) = false := beq_eq_false_iff_ne.2 hf
        clear ew ee e1 hb hR hk2 ok hf HOK
        go_enter Tryd.func25, Tryd.ntmps25
        go_wp2
        go_ret
        exact ⟨rfl, g, r, HA.out, Fr.refl _ _, .inl rfl, .inl rfl⟩
    · have e1 : isL x l = false := by unfold isL; rw [decide_eq_false hl, Bool.and_false]
      have ew : write x l t.data.toList = x := by unfold write; rw [if_neg (by rw [e1]; decide)]
      have ee : wrE x l = 221 := by unfold wrE; rw [if_neg (by rw [e1]; decide)]
      rw [ew, ee]
      have d1 : (x.lv : Int) ≤ l := by omega
      clear ew ee e1 hb hR hk2 ok HOK
      go_enter Tryd.func25, Tryd.ntmps25
      go_wp2
      go_ret
      exact ⟨rfl, g, r, HA.out, Fr.refl _ _, .inl rfl, .inl rfl⟩
set_option maxHeartbeats 1000000 in
theorem rtake_any (w : World) (y g r : Nat) (x : Con) (h : RAt w y x g r) (l : Int) : Calls Tryd.prog 26 #[ptr y, .int .i64 l] w (RaP w y g r (takeX x l) (.tuple #[.string (takeS x l), .int .i64 (wrE x l)])) := by
  have HA := Lib.hid h
  have ok := h.ok
  obtain ⟨⟨ck, h1, hR⟩, hk2, -⟩ := h
  obtain ⟨cr, hb, h2⟩ := hR.b
  have c0 := hb.cell 0
  have c5 := hb.cell 5
  simp at c0 c5
  unfold RaP
  by_cases h0 : l < 0
  · have e1 : isL x l = false := by unfold isL; rw [decide_eq_false (by omega)]; rfl
    have ew : takeX x l = x := by unfold takeX; rw [if_neg (by rw [e1]; decide)]
    have ee : wrE x l = 221 := by unfold wrE; rw [if_neg (by rw [e1]; decide)]
    have es : takeS x l = ⟨#[]⟩ := by unfold takeS; rw [if_neg (by rw [e1]; decide)]; rfl
    rw [ew, ee, es]
    clear ew ee es e1 hb hR hk2 ok
    go_enter Tryd.func26, Tryd.ntmps26
    go_wp2
    go_ret2
    exact ⟨rfl, g, r, HA.out, Fr.refl _ _, .inl rfl, .inl rfl⟩
  · by_cases hl : l < (x.lv : Int)
    · obtain ⟨n, rfl⟩ := Int.eq_ofNat_of_zero_le (show 0 ≤ l by omega)
      have hn : n < x.lv := by omega
      have e1 : isL x (n : Int) = true := by unfold isL; rw [decide_eq_true (by omega), decide_eq_true hl]; rfl
      have ee : wrE x (n : Int) = 0 := by unfold wrE; rw [if_pos e1]
      have ew : takeX x (n : Int) = { x with ks := x.ks.set n empty } := by unfold takeX; rw [if_pos e1]; rfl
      have hkn : x.ks[n]? = some (x.ks.getD n empty) := by
        rw [List.getD_eq_getElem?_getD, List.getElem?_eq_getElem (by rw [ok.n]; exact hn)]
        rfl
      have es : takeS x (n : Int) = x.ks.getD n empty := by unfold takeS; rw [if_pos e1]; rfl
      rw [ee, ew, es]
      have k0 := (hk2.at_ hkn).1
      have HKP := Lib.hid (rkeep_any w y g r x HA.out n hn ⟨#[]⟩ (by decide))
      have d1 : ¬ (x.lv : Int) ≤ (n : Int) := by omega
      have n0 : (0 : Int) ≤ (n : Int) := by omega
      generalize x.ks.getD n empty = S at *
      clear ew ee es e1 hb hR hk2 ok hkn hn
      go_enter Tryd.func26, Tryd.ntmps26
      go_wp2_with (go_at_call 43; refine HKP.out.mono ?_; rintro e w2 ⟨rfl, hQ⟩; have HQ := Lib.hid hQ; clear hQ)
      go_ret2
      exact ⟨rfl, HQ.out⟩
    · have e1 : isL x l = false := by unfold isL; rw [decide_eq_false hl, Bool.and_false]
      have ew : takeX x l = x := by unfold takeX; rw [if_neg (by rw [e1]; decide)]
      have ee : wrE x l = 221 := by unfold wrE; rw [if_neg (by rw [e1]; decide)]
      have es : takeS x l = ⟨#[]⟩ := by unfold takeS; rw [if_neg (by rw [e1]; decide)]; rfl
      rw [ew, ee, es]
      have d1 : (x.lv : Int) ≤ l := by omega
      clear ew ee es e1 hb hR hk2 ok
      go_enter Tryd.func26, Tryd.ntmps26
      go_wp2
      go_ret2
      exact ⟨rfl, g, r, HA.out, Fr.refl _ _, .inl rfl, .inl rfl⟩
set_option maxHeartbeats 1000000 in
theorem rbanner_any (w : World) (y g r : Nat) (x : Con) (h : RAt w y x g r) : Calls Tryd.prog 47 #[ptr y] w fun e w' => e = .returned (.string (banner x)) ∧ Fr [] w w' := by
  have ok := h.ok
  obtain ⟨⟨ck, h1, cr0⟩, hk2, -⟩ := h
  obtain ⟨cr, hb, h2⟩ := cr0.b
  have c2 := hb.cell 2
  simp at c2
  by_cases hf : x.fo = -1
  · have eb : banner x = ⟨#[91, 84, 82, 85, 83, 84, 69, 68, 93, 32, 32, 32, 32, 32, 32, 32, 32, 32, 32, 32, 32, 32, 32, 32]⟩ := by unfold banner; rw [if_pos hf]
    rw [eb]
    rw [hf] at c2
    clear eb hb cr0 hk2 ok hf
    go_enter Tryd.func47, Tryd.ntmps47
    go_wp2
    go_ret
    exact ⟨rfl, Fr.refl _ _⟩
  · obtain ⟨f, hf'⟩ : ∃ f : Nat, x.fo = (f : Int) := Int.eq_ofNat_of_zero_le (by have := ok.f0; omega)
    have eb : banner x = (⟨#[91, 76, 69, 86, 69, 76, 32]⟩ ++ ⟨#[dig f]⟩ ++ ⟨#[93, 32, 32, 32, 32, 32, 32, 32, 32, 32, 32, 32, 32, 32, 32, 32]⟩ : ByteArray) := by
      unfold banner
      rw [if_neg hf, hf', Int.toNat_natCast]
      generalize dig f = D
      rfl
    rw [eb]
    rw [hf'] at c2
    have f8 : f < 8 := by have h1 := ok.f1; have h2 := ok.l8; omega
    have hdig : (((dig f).toNat : Nat) : Int) = 48 + (f : Int) := by rw [dig_toNat (by omega)]; omega
    have hw : IntKind.u8.wrap (48 + (f : Int)) = 48 + (f : Int) := IntWalk.u8_in _ (by omega)
    have hw2 : IntKind.i64.wrap (48 + (f : Int)) = 48 + (f : Int) := IntWalk.i64_in _ (by omega)
    have hcv := conv_one (w.alloc (.cells #[.int .u8 (48 + (f : Int))] 5)) w.heap.size (dig f) (by rw [hdig]; simp)
    have d0 : ¬ (f : Int) < 0 := by omega
    have HF : Hid (Fr [] w (w.alloc (.cells #[.int .u8 (48 + (f : Int))] 5))) := Lib.hid ((Fr.refl [] w).alloc _)
    clear eb hb cr0 hk2 ok hf hf' hdig f8
    go_enter Tryd.func47, Tryd.ntmps47
    go_wp2
    go_ret
    exact ⟨rfl, HF.out⟩
end Go.Proofs.YtkjahokffpihmaaDoor

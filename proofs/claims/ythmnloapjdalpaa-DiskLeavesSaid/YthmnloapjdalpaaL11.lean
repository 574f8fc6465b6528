/- DiskLeaves: the walk. -/
import Derived.Test.YthmnloapjdalpaaL9
namespace Go.Proofs.Ythmnloapjdalpaa
open Go.RowKit
set_option linter.unusedVariables false
set_option linter.unusedSimpArgs false
/-- How many sectors ahead are unsafe. -/
def cntU (d : Dk) (i : Nat) : Nat := ((List.range i).filter fun k => (d.u k).isSome).length
theorem cntU_next (d : Dk) (i : Nat) : cntU d (i + 1) = cntU d i + if (d.u i).isSome then 1 else 0 := by
  unfold cntU
  rw [List.range_succ, List.filter_append, List.length_append]
  cases h : (d.u i).isSome <;> simp [h]
theorem waiting_cnt (d : Dk) : d.waiting.length = cntU d d.n := by unfold Dk.waiting cntU; rw [List.length_map]
theorem range_split (i n : Nat) (h : i ≤ n) : List.range n = List.range i ++ (List.range (n - i)).map (fun k => i + k) := by
  have := List.range_add (n := i) (m := n - i)
  rw [show i + (n - i) = n by omega] at this
  exact this
theorem waiting_at (d : Dk) (i : Nat) (hi : i < d.n) (hu : (d.u i).isSome = true) : d.waiting[cntU d i]? = some (i : Int) := by
  unfold Dk.waiting
  rw [range_split (i + 1) d.n (by omega), List.range_succ, List.filter_append, List.filter_append, List.map_append, List.map_append]
  have h1 : ((List.range i).filter fun k => (d.u k).isSome).map (fun (k : Nat) => (k : Int)) = ((List.range i).filter fun k => (d.u k).isSome).map (fun (k : Nat) => (k : Int)) := rfl
  rw [List.append_assoc, List.getElem?_append_right (by rw [List.length_map]; exact Nat.le_refl _), List.length_map]
  have h2 : cntU d i - ((List.range i).filter fun k => (d.u k).isSome).length = 0 := by unfold cntU; omega
  rw [h2]
  simp [hu]
theorem waiting_not (d : Dk) (i : Nat) (hi : i < d.n) (hu : (d.u i).isSome = false) : ∀ x, d.waiting[cntU d i]? = some x → x ≠ (i : Int) := by
  intro x hx e
  subst e
  have := List.mem_of_getElem? hx
  rw [waiting_mem] at this
  obtain ⟨k, h1, h2, h3⟩ := this
  have : i = k := by omega
  subst this
  rw [hu] at h2
  cases h2
/-- A sector, as it is safe, as it is read, as it is left. -/
structure Three (SA SB SG : ByteArray) : Prop where
  a : SA.size = 128
  b : SB.size = 128
  g : SG.size = 128
  tail : ∀ T, T ≤ 128 → (∀ j, j < T → at8 SG j = at8 SB j) → (T = 128 ∨ at8 SG T ≠ at8 SB T) → SG.extract T SG.size = SA.extract T SA.size
  last : at8 SG 127 = at8 SB 127 → at8 SA 127 ≠ at8 SB 127 → SG = SB
theorem at8_extract {s : ByteArray} {a b i : Nat} (h : a + i < b) (h2 : b ≤ s.size) : at8 (s.extract a b) i = at8 s (a + i) := by
  unfold at8
  rw [ByteArray.data_extract, Array.getElem?_extract, if_pos (by show i < min b s.size - a; omega)]
theorem three (d : Dk) (hok : d.Ok) (l : List Int) (i : Nat) (hi : i < d.n) : Three (d.safe.extract (128 * i) (128 * i + 128)) (d.image.extract (128 * i) (128 * i + 128)) ((d.after l).extract (128 * i) (128 * i + 128)) ∧
    (d.u i = none → d.image.extract (128 * i) (128 * i + 128) = d.safe.extract (128 * i) (128 * i + 128) ∧ (d.after l).extract (128 * i) (128 * i + 128) = d.safe.extract (128 * i) (128 * i + 128)) := by
  have eA : d.safe.extract (128 * i) (128 * i + 128) = bs d.s (128 * i) 128 := by
    unfold Dk.safe
    rw [bs_extract _ _ _ _ _ (by omega) (by omega)]
    rw [Nat.zero_add, Nat.add_sub_cancel_left]
  have eB : d.image.extract (128 * i) (128 * i + 128) = bs (rdB d) (128 * i) 128 := by
    unfold Dk.image
    rw [bs_extract _ _ _ _ _ (by omega) (by omega)]
    rw [Nat.zero_add, Nat.add_sub_cancel_left]
  have eG : (d.after l).extract (128 * i) (128 * i + 128) = bs (leftB d (chAt l)) (128 * i) 128 := by
    unfold Dk.after
    rw [bs_extract _ _ _ _ _ (by omega) (by omega)]
    rw [Nat.zero_add, Nat.add_sub_cancel_left]
  rw [eA, eB, eG]
  have dv : ∀ j, j < 128 → (128 * i + j) / 128 = i ∧ (128 * i + j) % 128 = j := fun j hj => by omega
  cases hu : d.u i with
  | none =>
    have e1 : bs (rdB d) (128 * i) 128 = bs d.s (128 * i) 128 := bs_congr fun j hj => by unfold rdB; rw [(dv j hj).1, hu]
    have e2 : bs (leftB d (chAt l)) (128 * i) 128 = bs d.s (128 * i) 128 := bs_congr fun j hj => by unfold leftB; rw [(dv j hj).1, hu]
    rw [e1, e2]
    exact ⟨⟨bs_size _ _ _, bs_size _ _ _, bs_size _ _ _, fun T hT h1 h2 => rfl, fun h1 h2 => rfl⟩, fun _ => ⟨rfl, rfl⟩⟩
  | some t =>
    have vA : ∀ j, j < 128 → at8 (bs d.s (128 * i) 128) j = d.s (128 * i + j) := fun j hj => at8_bs hj
    have vB : ∀ j, j < 128 → at8 (bs (rdB d) (128 * i) 128) j = at8 t j := fun j hj => by rw [at8_bs hj]; unfold rdB; rw [(dv j hj).1, (dv j hj).2, hu]
    have vG : ∀ j, j < 128 → at8 (bs (leftB d (chAt l)) (128 * i) 128) j = if j < clamp (chAt l i) then at8 t j else d.s (128 * i + j) := fun j hj => by rw [at8_bs hj]; unfold leftB; rw [(dv j hj).1, (dv j hj).2, hu]
    refine ⟨⟨bs_size _ _ _, bs_size _ _ _, bs_size _ _ _, fun T hT h1 h2 => ?_, fun h1 h2 => ?_⟩, fun h => by cases h⟩
    · rw [bs_size, bs_size, bs_extract _ _ _ _ _ hT (Nat.le_refl _), bs_extract _ _ _ _ _ hT (Nat.le_refl _)]
      refine bs_congr fun j hj => ?_
      rcases h2 with rfl | h2
      · omega
      · have hT' : T < 128 := by omega
        rw [vG T hT', vB T hT'] at h2
        have hc : clamp (chAt l i) ≤ T := by
          rcases Nat.lt_or_ge T (clamp (chAt l i)) with h | h
          · rw [if_pos h] at h2
            exact absurd rfl h2
          · exact h
        have h3 := vG (T + j) (by omega)
        rw [at8_bs (by omega), if_neg (by omega)] at h3
        rw [Nat.add_assoc]
        exact h3
    · rw [vG 127 (by omega), vB 127 (by omega)] at h1
      rw [vA 127 (by omega), vB 127 (by omega)] at h2
      have hc : 127 < clamp (chAt l i) := by
        rcases Nat.lt_or_ge 127 (clamp (chAt l i)) with h | h
        · exact h
        · rw [if_neg (by omega)] at h1
          exact absurd h1 h2
      refine at8_ext (by rw [bs_size, bs_size]) fun j hj => ?_
      rw [bs_size] at hj
      rw [vG j hj, vB j hj, if_pos (by omega)]
/-- What DiskLeaves' calls tell. -/
structure LvC (w : World) (p : Nat) (D D1 : Dk) (N M : Nat) (RD SF LF : ByteArray) (C : Option Addr) (nc cc : Nat) : Prop where
  count : ∀ W, Dd w W p D → Calls Try.prog 29 #[ptr p] W fun e w' => e = .returned (.int .i64 N) ∧ W = w'
  im : ∀ W, Dd w W p D → Calls Try.prog 28 #[ptr p] W fun e w' => e = .returned (.string RD) ∧ Dd w w' p D
  sf : ∀ W, Dd w W p D → Calls Try.prog 31 #[ptr p] W fun e w' => e = .returned (.string SF) ∧ Dd w w' p D
  after : ∀ W, Dd w W p D → Calls Try.prog 49 #[ptr p, .slice C nc cc] W fun e w' => e = .returned (.string LF) ∧ Dd w w' p D
  wait : ∀ W, Dd w W p D → Calls Try.prog 50 #[ptr p] W fun e w' => ∃ A, e = .returned (.slice A M M) ∧ Zw w' (.slice A M M) D.waiting ∧ Dd w w' p D
  clone : ∀ W, Dd w W p D → Calls Try.prog 37 #[ptr p] W fun e w' => ∃ q, e = .returned (ptr q) ∧ Fr [] w W ∧ Dd W w' q D
  crash : ∀ W0 W q, Fr [] w W0 → Dd W0 W q D → Calls Try.prog 32 #[ptr q, .slice C nc cc] W fun e w' => e = .returned (.int .i64 0) ∧ Dd W0 w' q D1
  im1 : ∀ W0 W q, Dd W0 W q D1 → Calls Try.prog 28 #[ptr q] W fun e w' => e = .returned (.string LF) ∧ Dd W0 w' q D1
  sf1 : ∀ W0 W q, Dd W0 W q D1 → Calls Try.prog 31 #[ptr q] W fun e w' => e = .returned (.string LF) ∧ Dd W0 w' q D1
  wait1 : ∀ W0 W q, Dd W0 W q D1 → Calls Try.prog 50 #[ptr q] W fun e w' => ∃ A, e = .returned (.slice A 0 0) ∧ Dd W0 w' q D1
  crash1 : ∀ W0 W q, Fr [] w W0 → Dd W0 W q D1 → Calls Try.prog 32 #[ptr q, .slice C nc cc] W fun e w' => e = .returned (.int .i64 2) ∧ Dd W0 w' q D1
  fixed : ∀ W, Dd w W p D → Calls Try.prog 46 #[] W fun e w' => e = .returned (.bool true) ∧ Dd w w' p D
theorem lvC {w0 w : World} {p : Nat} {D : Dk} (hd : Dd w0 w p D) (hc : D.Calm) {C : Option Addr} {nc cc : Nat} {l : List Int} (hz : Zw w0 (.slice C nc cc) l) :
    ∃ D1, LvC w0 p D D1 D.n D.waiting.length D.image D.safe (D.after l) C nc cc := by
  obtain ⟨c1, c2⟩ := crash_calm hc.d l
  have e1 : (D.die l).safe = D.after l := rfl
  have e2 : (D.die l).crashE = 2 := rfl
  have e3 : (D.die l).crashS l = D.die l := rfl
  refine ⟨D.die l, ?_⟩
  exact {
    count := fun W h => h.count
    im := fun W h => h.image_
    sf := fun W h => h.safe.mono fun e w' ⟨he, hw⟩ => ⟨he, hw ▸ h⟩
    after := fun W h => h.after_ hz
    wait := fun W h => h.waiting.mono fun e w' ⟨A, he, hzo, hf⟩ => ⟨A, he, hzo.zs.zw, h.to hf⟩
    clone := fun W h => h.clone.mono fun e w' ⟨q, he, hd⟩ => ⟨q, he, h.fr, hd⟩
    crash := fun W0 W q hf h => (h.crash (hz.fr (hf.trans h.fr) (NoZ.nil _))).mono fun e w' ⟨he, hw⟩ => ⟨by rw [he, c1], by rw [c2] at hw; exact hw⟩
    im1 := fun W0 W q h => h.image_.mono fun e w' ⟨he, hw⟩ => ⟨by rw [he, clean_image (die_clean _ _), e1], hw⟩
    sf1 := fun W0 W q h => h.safe.mono fun e w' ⟨he, hw⟩ => ⟨by rw [he, e1], hw ▸ h⟩
    wait1 := fun W0 W q h => h.length.mono fun e w' ⟨A, he, hw⟩ => ⟨A, by rw [he, clean_waiting (die_clean _ _)]; rfl, hw⟩
    crash1 := fun W0 W q hf h => (h.crash (hz.fr (hf.trans h.fr) (NoZ.nil _))).mono fun e w' ⟨he, hw⟩ => ⟨by rw [he, e2], by rw [e3] at hw; exact hw⟩
    fixed := fun W h => h.fixed }
set_option maxRecDepth 100000 in
set_option maxHeartbeats 8000000 in
theorem leaves_walk (t : ByteArray) (w : World) (A : Option Addr) (n cap : Nat) (ops : Nat → OpD) (C : Option Addr) (nc cc : Nat) (l : List Int) (ht : t.size ≤ maxLen) (ho : OpsD w (.slice A n cap) n ops) (hz : Zw w (.slice C nc cc) l) :
    Calls Try.prog 13 #[.string t, .slice A n cap, .slice C nc cc] w fun e w' => e = .returned (.bool true) ∧ Fr [] w w' := by
  by_cases h0 : newE t = 0
  · have HM0 := Lib.hid (made_ok t _ A n cap ops ht ho h0)
    have HZ := Lib.hid hz
    clear ho hz h0 ht
    go_enter Try.func13, Try.ntmps13
    go_wp2_with (first
      | (go_at_call 45; refine HM0.out.mono ?_; rintro e w1 ⟨p, D, rfl, hd, hc, hts⟩; obtain ⟨D1, hC⟩ := lvC hd hc HZ.out; have K := Lib.hid hC; have Hok := Lib.hid hd.ok; have hn2 := hd.ok.n2; have q1 : (128 * (D.n : Int)).tdiv 128 = D.n := (by rw [Int.tdiv_eq_ediv_of_nonneg (by omega)]; omega); have H3 := Lib.hid (fun i hi => three D hd.ok l i hi); have HS := Lib.hid (And.intro (image_size D) (And.intro (safe_size D) (after_sz D l))); have HMn := Lib.hid (waiting_len D); have hs1 := image_size D; have hs2 := safe_size D; have hs3 := after_sz D l; have Hmc := Lib.hid (waiting_cnt D); generalize D.image = RD at *; generalize D.safe = SF at *; generalize D.after l = LF at *; obtain ⟨N, hN⟩ : ∃ N, D.n = N := ⟨_, rfl⟩; obtain ⟨M, hM⟩ : ∃ M, D.waiting.length = M := ⟨_, rfl⟩; rw [hN] at H3 HS Hmc HMn; rw [hM] at HMn Hmc; rw [hN, hM] at K; rw [hN] at hn2 q1 hts hs1 hs2 hs3; have HN := Lib.hid hN; have HM := Lib.hid hM; have Hn2 := Lib.hid hn2; clear hC hc HM0 hN hM)
      | (go_at_call 28; first | (have hq := K.out.im _ hd; clear hd; refine hq.mono ?_; rintro e w2 ⟨rfl, hd⟩; clear hq) | (have hq := K.out.im1 _ _ _ he; clear he; refine hq.mono ?_; rintro e w7 ⟨rfl, he⟩; clear hq))
      | (go_at_call 31; first | (have hq := K.out.sf _ hd; clear hd; refine hq.mono ?_; rintro e w3 ⟨rfl, hd⟩; clear hq) | (have hq := K.out.sf1 _ _ _ he; clear he; refine hq.mono ?_; rintro e w8 ⟨rfl, he⟩; clear hq))
      | (go_at_call 49; have hq := K.out.after _ hd; clear hd; refine hq.mono ?_; rintro e w4 ⟨rfl, hd⟩; clear hq)
      | (go_at_call 50; first | (have hq := K.out.wait _ hd; clear hd; refine hq.mono ?_; rintro e w5 ⟨AW, rfl, hzw, hd⟩; clear hq) | (have hq := K.out.wait1 _ _ _ he; clear he; refine hq.mono ?_; rintro e w9 ⟨A9, rfl, he⟩; clear hq))
      | (go_at_call 29; have hq := K.out.count _ hd; refine hq.mono ?_; rintro e w6 ⟨rfl, rfl⟩; clear hq)
      | (go_at_call 37; have hq := K.out.clone _ hd; have HD5 := Lib.hid hd; have HZ5 := Lib.hid hzw; clear hd hzw; refine hq.mono ?_; rintro e w6 ⟨q, rfl, hfc, he⟩; clear hq)
      | (go_at_call 32; first | (have hq := K.out.crash _ _ _ hfc he; clear he; refine hq.mono ?_; rintro e w6 ⟨rfl, he⟩; clear hq) | (have hq := K.out.crash1 _ _ _ hfc he; clear he; refine hq.mono ?_; rintro e w10 ⟨rfl, he⟩; clear hq)))
    have HDz := Lib.hid (HD5.out.to he.fr)
    have HZz := Lib.hid (HZ5.out.fr he.fr (NoZ.nil _))
    have HfZ := Lib.hid (Fr.refl [] w10)
    clear he hfc
    go_loopg [15, 16] N (fun gg v15 v16 wr => ∃ i : Nat, i + gg = N ∧ v16 = .int .i64 (i : Int) ∧ v15 = .int .i64 (cntU D i : Int) ∧ Fr [] w10 wr)
    case atStart => exact ⟨0, by omega, rfl, rfl, HfZ.out⟩
    case round =>
      obtain ⟨i, hi, rfl, rfl, hfr⟩ := hrel
      have Hi := Lib.hid hi
      have Hfr := Lib.hid hfr
      have HcN := Lib.hid (K.out.count _ (HDz.out.to hfr))
      have Hzr := Lib.hid (HZz.out.fr hfr (NoZ.nil _))
      clear hi hfr
      by_cases hlt : i < N
      · have hlt' : (i : Int) < (N : Int) := by omega
        have hi0 : (0 : Int) ≤ (i : Int) := by omega
        have hn2 := Hn2.out
        have hwi : IntKind.i64.wrap ((i : Int) + 1) = (i : Int) + 1 := IntWalk.i64_in _ (by omega)
        obtain ⟨h3, hno⟩ := H3.out i hlt
        have hcle : cntU D i ≤ i := by unfold cntU; have := List.length_filter_le (fun k => (D.u k).isSome) (List.range i); rw [List.length_range] at this; exact this
        have v4 : IntKind.i64.wrap (128 * (i : Int)) = 128 * (i : Int) := IntWalk.i64_in _ (by omega)
        have v5 : IntKind.i64.wrap (128 * (i : Int) + 128) = 128 * (i : Int) + 128 := IntWalk.i64_in _ (by omega)
        have m1 := fun wx => sl_lh SF (128 * i) (128 * i + 128) (128 * (i : Int)) (128 * (i : Int) + 128) (by omega) (by omega) wx (by omega) (by omega)
        have m2 := fun wx => sl_lh RD (128 * i) (128 * i + 128) (128 * (i : Int)) (128 * (i : Int) + 128) (by omega) (by omega) wx (by omega) (by omega)
        have m3 := fun wx => sl_lh LF (128 * i) (128 * i + 128) (128 * (i : Int)) (128 * (i : Int) + 128) (by omega) (by omega) wx (by omega) (by omega)
        generalize SF.extract (128 * i) (128 * i + 128) = SA at *
        generalize RD.extract (128 * i) (128 * i + 128) = SB at *
        generalize LF.extract (128 * i) (128 * i + 128) = SG at *
        have H3i := Lib.hid h3
        have Hnx := Lib.hid (cntU_next D i)
        obtain ⟨c, hc⟩ : ∃ c, cntU D i = c := ⟨_, rfl⟩
        have hc0 : (0 : Int) ≤ (c : Int) := by omega
        clear h3
        have Hwn := Lib.hid (fun hu => waiting_not D i (by rw [HN.out]; exact hlt) hu)
        have Hwa := Lib.hid (fun hu => waiting_at D i (by rw [HN.out]; exact hlt) hu)
        rw [hc] at hcle Hnx Hwn Hwa ⊢
        clear hc
        cases hu : D.u i with
        | none =>
          obtain ⟨e1, e2⟩ := hno hu
          rw [hu] at Hnx Hwn
          have Hcn : Hid (cntU D (i + 1) = c) := Lib.hid (by rw [Hnx.out]; rfl)
          have hne := Hwn.out rfl
          subst e1
          subst e2
          by_cases hcM : c < M
          · have hcM' : (c : Int) < (M : Int) := by omega
            obtain ⟨z, hx⟩ : ∃ z, D.waiting[c]? = some z := ⟨_, List.getElem?_eq_getElem (by rw [HM.out]; exact hcM)⟩
            have hx2 := hne _ hx
            obtain ⟨qw, ow, hAW, -, cw⟩ := Hzr.out.cell hx
            subst hAW
            have cw' : ∀ nq, (wr.drewN nq).cell? ⟨qw, ow + c, none⟩ = some (.int .i64 z) := fun nq => cw
            clear hx hne hu hno Hwn Hwa
            go_wp2_with (go_at_call 29; refine HcN.out.mono ?_; rintro e w5 ⟨rfl, rfl⟩)
            go_quiet (fail)
            go_wp2_with fail
            have HfO := Lib.hid ((Fr.refl [] wr).drewN nq)
            clear m1 m2 m3
            generalize wr.drewN nq = WO at *
            go_loopg [21] 128 (fun gg v wz => ∃ T : Nat, T + gg = 128 ∧ v = .int .i64 (T : Int) ∧ Fr [] WO wz)
            case atStart => exact ⟨0, by omega, rfl, Fr.refl _ _⟩
            case round =>
              obtain ⟨T, hT, rfl, hfz⟩ := hrel
              have HT := Lib.hid hT
              have Hfz := Lib.hid hfz
              clear hT hfz
              have sg := H3i.out.g
              by_cases hlt2 : T < 128
              · have hlt2' : (T : Int) < 128 := by omega
                have hT0 : (0 : Int) ≤ (T : Int) := by omega
                have igT : ∀ h, SG[T]'h = at8 SG T := fun h => at8_elem h
                have hwT : IntKind.i64.wrap ((T : Int) + 1) = (T : Int) + 1 := IntWalk.i64_in _ (by omega)
                generalize at8 SG T = bT at *
                go_wp2_with fail
                go_quiet (fail)
                go_wp2_with fail
                go_roundg (128 - (T + 1))
                case measure => have := HT.out; omega
                case rel => exact ⟨T + 1, by have := HT.out; omega, by go_num, Hfz.out.drewN _⟩
              · have hlt2' : ¬ (T : Int) < 128 := by omega
                have hTe : T = 128 := by have := HT.out; omega
                subst hTe
                clear sg
                go_wp2_with fail
                go_quiet (fail)
                go_wp2_with fail
                obtain ⟨P, hP⟩ : ∃ P, SG.extract 128 SG.size = P := ⟨_, rfl⟩
                have mm1 := fun wx => (sl_l SG 128 (128 : Int) rfl wx (by rw [H3i.out.g]; omega)).trans (by rw [hP])
                go_quiet (fail)
                go_wp2_with fail
                clear mm1 hP
                have sg := H3i.out.g
                have ig : ∀ h, SG[127]'h = at8 SG 127 := fun h => at8_elem h
                generalize at8 SG 127 = g7 at *
                go_quiet (fail)
                go_wp2_with fail
                go_roundg (N - (i + 1))
                case measure => have := Hi.out; omega
                case rel => exact ⟨i + 1, by have := Hi.out; omega, by go_num, by rw [Hcn.out], Hfr.out.trans ((HfO.out.trans Hfz.out).drewN _)⟩
          · have hcM' : ¬ (c : Int) < (M : Int) := by omega
            clear hne hu hno Hwn Hwa
            go_wp2_with (go_at_call 29; refine HcN.out.mono ?_; rintro e w5 ⟨rfl, rfl⟩)
            go_quiet (fail)
            go_wp2_with fail
            have HfO := Lib.hid ((Fr.refl [] wr).drewN nq)
            clear m1 m2 m3
            generalize wr.drewN nq = WO at *
            go_loopg [21] 128 (fun gg v wz => ∃ T : Nat, T + gg = 128 ∧ v = .int .i64 (T : Int) ∧ Fr [] WO wz)
            case atStart => exact ⟨0, by omega, rfl, Fr.refl _ _⟩
            case round =>
              obtain ⟨T, hT, rfl, hfz⟩ := hrel
              have HT := Lib.hid hT
              have Hfz := Lib.hid hfz
              clear hT hfz
              have sg := H3i.out.g
              by_cases hlt2 : T < 128
              · have hlt2' : (T : Int) < 128 := by omega
                have hT0 : (0 : Int) ≤ (T : Int) := by omega
                have igT : ∀ h, SG[T]'h = at8 SG T := fun h => at8_elem h
                have hwT : IntKind.i64.wrap ((T : Int) + 1) = (T : Int) + 1 := IntWalk.i64_in _ (by omega)
                generalize at8 SG T = bT at *
                go_wp2_with fail
                go_quiet (fail)
                go_wp2_with fail
                go_roundg (128 - (T + 1))
                case measure => have := HT.out; omega
                case rel => exact ⟨T + 1, by have := HT.out; omega, by go_num, Hfz.out.drewN _⟩
              · have hlt2' : ¬ (T : Int) < 128 := by omega
                have hTe : T = 128 := by have := HT.out; omega
                subst hTe
                clear sg
                go_wp2_with fail
                go_quiet (fail)
                go_wp2_with fail
                obtain ⟨P, hP⟩ : ∃ P, SG.extract 128 SG.size = P := ⟨_, rfl⟩
                have mm1 := fun wx => (sl_l SG 128 (128 : Int) rfl wx (by rw [H3i.out.g]; omega)).trans (by rw [hP])
                go_quiet (fail)
                go_wp2_with fail
                clear mm1 hP
                have sg := H3i.out.g
                have ig : ∀ h, SG[127]'h = at8 SG 127 := fun h => at8_elem h
                generalize at8 SG 127 = g7 at *
                go_quiet (fail)
                go_wp2_with fail
                go_roundg (N - (i + 1))
                case measure => have := Hi.out; omega
                case rel => exact ⟨i + 1, by have := Hi.out; omega, by go_num, by rw [Hcn.out], Hfr.out.trans ((HfO.out.trans Hfz.out).drewN _)⟩
        | some tt =>
          have hx := Hwa.out (by rw [hu]; rfl)
          have hcM : c < M := by rw [← HM.out]; exact (List.getElem?_eq_some_iff.1 hx).1
          have hcM' : (c : Int) < (M : Int) := by omega
          have hwc : IntKind.i64.wrap ((c : Int) + 1) = (c : Int) + 1 := IntWalk.i64_in _ (by omega)
          rw [hu] at Hnx
          have Hcn : Hid (cntU D (i + 1) = c + 1) := Lib.hid (by rw [Hnx.out]; rfl)
          obtain ⟨qw, ow, hAW, -, cw⟩ := Hzr.out.cell hx
          subst hAW
          have cw' : ∀ nq, (wr.drewN nq).cell? ⟨qw, ow + c, none⟩ = some (.int .i64 (i : Int)) := fun nq => cw
          clear hx hu hno Hwn Hwa Hnx
          go_wp2_with (go_at_call 29; refine HcN.out.mono ?_; rintro e w5 ⟨rfl, rfl⟩)
          go_quiet (fail)
          go_wp2_with fail
          have HfO := Lib.hid ((Fr.refl [] wr).drewN nq)
          clear m1 m2 m3
          generalize wr.drewN nq = WO at *
          go_loopg [21] 128 (fun gg v wz => ∃ T : Nat, T + gg = 128 ∧ v = .int .i64 (T : Int) ∧ (∀ j, j < T → at8 SG j = at8 SB j) ∧ Fr [] WO wz)
          case atStart => exact ⟨0, by omega, rfl, fun j hj => by omega, Fr.refl _ _⟩
          case round =>
            obtain ⟨T, hT, rfl, hpre, hfz⟩ := hrel
            have HT := Lib.hid hT
            have Hpre := Lib.hid hpre
            have Hfz := Lib.hid hfz
            clear hT hpre hfz
            have sg := H3i.out.g
            have sb := H3i.out.b
            by_cases hlt2 : T < 128
            · have hlt2' : (T : Int) < 128 := by omega
              have hT0 : (0 : Int) ≤ (T : Int) := by omega
              have igT : ∀ h, SG[T]'h = at8 SG T := fun h => at8_elem h
              have ibT : ∀ h, SB[T]'h = at8 SB T := fun h => at8_elem h
              have hwT : IntKind.i64.wrap ((T : Int) + 1) = (T : Int) + 1 := IntWalk.i64_in _ (by omega)
              by_cases e0 : at8 SG T = at8 SB T
              · have Hnext : Hid (∀ j, j < T + 1 → at8 SG j = at8 SB j) := Lib.hid (fun j hj => by
                  by_cases hjT : j = T
                  · rw [hjT]; exact e0
                  · exact Hpre.out j (by omega))
                rw [e0] at igT
                generalize at8 SB T = bT at *
                clear e0
                go_wp2_with fail
                go_quiet (fail)
                go_wp2_with fail
                go_roundg (128 - (T + 1))
                case measure => have := HT.out; omega
                case rel => exact ⟨T + 1, by have := HT.out; omega, by go_num, Hnext.out, Hfz.out.drewN _⟩
              · have hTail := H3i.out.tail T (by omega) Hpre.out (.inr e0)
                have e0' : ¬ ((at8 SG T).toNat : Int) = ((at8 SB T).toNat : Int) := fun h => e0 (UInt8.toNat_inj.1 (by omega))
                generalize at8 SG T = gT at *
                generalize at8 SB T = bT at *
                go_wp2_with fail
                go_quiet (fail)
                go_wp2_with fail
                clear igT ibT e0 e0' sg sb
                obtain ⟨P, hP⟩ : ∃ P, SA.extract T SA.size = P := ⟨_, rfl⟩
                have mm1 := fun wx => (sl_l SG T (T : Int) rfl wx (by rw [H3i.out.g]; omega)).trans (by rw [hTail, hP])
                have mm2 := fun wx => (sl_l SA T (T : Int) rfl wx (by rw [H3i.out.a]; omega)).trans (by rw [hP])
                go_quiet (fail)
                go_wp2_with fail
                clear mm1 mm2 hP
                have sg := H3i.out.g
                have sa := H3i.out.a
                have sb := H3i.out.b
                have ig : ∀ h, SG[127]'h = at8 SG 127 := fun h => at8_elem h
                have ia : ∀ h, SA[127]'h = at8 SA 127 := fun h => at8_elem h
                have ib : ∀ h, SB[127]'h = at8 SB 127 := fun h => at8_elem h
                have HL := Lib.hid H3i.out.last
                obtain ⟨g7, hg7⟩ : ∃ c, at8 SG 127 = c := ⟨_, rfl⟩
                obtain ⟨a7, ha7⟩ : ∃ c, at8 SA 127 = c := ⟨_, rfl⟩
                obtain ⟨b7, hb7⟩ : ∃ c, at8 SB 127 = c := ⟨_, rfl⟩
                rw [hg7] at ig HL
                rw [ha7] at ia HL
                rw [hb7] at ib HL
                clear hg7 ha7 hb7
                by_cases e1 : g7 = b7
                · subst e1
                  by_cases e2 : a7 = g7
                  · subst e2
                    go_quiet (fail)
                    go_wp2_with fail
                    go_roundg (N - (i + 1))
                    case measure => have := Hi.out; omega
                    case rel => exact ⟨i + 1, by have := Hi.out; omega, by go_num, by rw [Hcn.out]; go_num, Hfr.out.trans ((HfO.out.trans Hfz.out).drewN _)⟩
                  · have e2' : ¬ (a7.toNat : Int) = (g7.toNat : Int) := fun h => e2 (UInt8.toNat_inj.1 (by omega))
                    have e3 := HL.out rfl e2
                    subst e3
                    go_quiet (fail)
                    go_wp2_with fail
                    go_roundg (N - (i + 1))
                    case measure => have := Hi.out; omega
                    case rel => exact ⟨i + 1, by have := Hi.out; omega, by go_num, by rw [Hcn.out]; go_num, Hfr.out.trans ((HfO.out.trans Hfz.out).drewN _)⟩
                · have e1' : ¬ (g7.toNat : Int) = (b7.toNat : Int) := fun h => e1 (UInt8.toNat_inj.1 (by omega))
                  go_quiet (fail)
                  go_wp2_with fail
                  go_roundg (N - (i + 1))
                  case measure => have := Hi.out; omega
                  case rel => exact ⟨i + 1, by have := Hi.out; omega, by go_num, by rw [Hcn.out]; go_num, Hfr.out.trans ((HfO.out.trans Hfz.out).drewN _)⟩
            · have hlt2' : ¬ (T : Int) < 128 := by omega
              have hTe : T = 128 := by have := HT.out; omega
              have hTail := H3i.out.tail T (by omega) Hpre.out (.inl hTe)
              subst hTe
              clear sg sb
              go_wp2_with fail
              go_quiet (fail)
              go_wp2_with fail
              obtain ⟨P, hP⟩ : ∃ P, SA.extract 128 SA.size = P := ⟨_, rfl⟩
              have mm1 := fun wx => (sl_l SG 128 (128 : Int) rfl wx (by rw [H3i.out.g]; omega)).trans (by rw [hTail, hP])
              have mm2 := fun wx => (sl_l SA 128 (128 : Int) rfl wx (by rw [H3i.out.a]; omega)).trans (by rw [hP])
              go_quiet (fail)
              go_wp2_with fail
              clear mm1 mm2 hP
              have sg := H3i.out.g
              have sa := H3i.out.a
              have sb := H3i.out.b
              have ig : ∀ h, SG[127]'h = at8 SG 127 := fun h => at8_elem h
              have ia : ∀ h, SA[127]'h = at8 SA 127 := fun h => at8_elem h
              have ib : ∀ h, SB[127]'h = at8 SB 127 := fun h => at8_elem h
              have HL := Lib.hid H3i.out.last
              obtain ⟨g7, hg7⟩ : ∃ c, at8 SG 127 = c := ⟨_, rfl⟩
              obtain ⟨a7, ha7⟩ : ∃ c, at8 SA 127 = c := ⟨_, rfl⟩
              obtain ⟨b7, hb7⟩ : ∃ c, at8 SB 127 = c := ⟨_, rfl⟩
              rw [hg7] at ig HL
              rw [ha7] at ia HL
              rw [hb7] at ib HL
              clear hg7 ha7 hb7
              by_cases e1 : g7 = b7
              · subst e1
                by_cases e2 : a7 = g7
                · subst e2
                  go_quiet (fail)
                  go_wp2_with fail
                  go_roundg (N - (i + 1))
                  case measure => have := Hi.out; omega
                  case rel => exact ⟨i + 1, by have := Hi.out; omega, by go_num, by rw [Hcn.out]; go_num, Hfr.out.trans ((HfO.out.trans Hfz.out).drewN _)⟩
                · have e2' : ¬ (a7.toNat : Int) = (g7.toNat : Int) := fun h => e2 (UInt8.toNat_inj.1 (by omega))
                  have e3 := HL.out rfl e2
                  subst e3
                  go_quiet (fail)
                  go_wp2_with fail
                  go_roundg (N - (i + 1))
                  case measure => have := Hi.out; omega
                  case rel => exact ⟨i + 1, by have := Hi.out; omega, by go_num, by rw [Hcn.out]; go_num, Hfr.out.trans ((HfO.out.trans Hfz.out).drewN _)⟩
              · have e1' : ¬ (g7.toNat : Int) = (b7.toNat : Int) := fun h => e1 (UInt8.toNat_inj.1 (by omega))
                go_quiet (fail)
                go_wp2_with fail
                go_roundg (N - (i + 1))
                case measure => have := Hi.out; omega
                case rel => exact ⟨i + 1, by have := Hi.out; omega, by go_num, by rw [Hcn.out]; go_num, Hfr.out.trans ((HfO.out.trans Hfz.out).drewN _)⟩
      · have hlt' : ¬ (i : Int) < (N : Int) := by omega
        have hiN : i = N := by have := Hi.out; omega
        have hcM : cntU D i = M := by rw [hiN, Hmc.out]
        have Hd9 := Lib.hid (HDz.out.to Hfr.out)
        have hrw : ((cntU D i : Nat) : Int) = (M : Int) := by rw [hcM]
        rw [hcM]
        go_wp2_with (first
          | (go_at_call 29; refine HcN.out.mono ?_; rintro e w5 ⟨rfl, rfl⟩)
          | (go_at_call 46; refine (K.out.fixed _ Hd9.out).mono ?_; rintro e w9 ⟨rfl, hd9⟩))
        go_ret
        exact ⟨rfl, hd9.fr⟩
  · have HM0 := Lib.hid (made_bad t _ A n cap ops ht ho h0)
    have HN := Lib.hid (fun W => none_walk t W h0 ht)
    have HFx := Lib.hid fixed07_any
    clear ho hz h0 ht
    go_enter Try.func13, Try.ntmps13
    go_wp2_with (first
      | (go_at_call 45; refine HM0.out.mono ?_; rintro e w1 ⟨rfl, hf1⟩)
      | (go_at_call 35; refine (HN.out _).mono ?_; rintro e w2 ⟨rfl, hf2⟩)
      | (go_at_call 46; refine (HFx.out _).mono ?_; rintro e w3 ⟨rfl, hf3⟩))
    go_ret
    exact ⟨rfl, hf1.trans (hf2.trans hf3)⟩
end Go.Proofs.Ythmnloapjdalpaa

/- SchedTables: the walk. -/
import Derived.Test.YtnpdljmgjpngaaaL8
import Derived.Deep.DeepCutAuto
import Derived.Deep.CutBlock
import Derived.Deep.LoopGhost
import Derived.Deep.DeepMust
import Derived.Deep.RegionHeld3
namespace Go.Proofs.Ytnpdljmgjpngaaa
open Go.RowKit
set_option linter.unusedVariables false
set_option linter.unusedSimpArgs false

theorem Try.info43 : (Try.prog.info? 43).map (fun i => (i.zero, i.size, i.bytes)) = some (some (.pointer none), 1, 8) := by kernel_rfl
theorem Try.info54 : (Try.prog.info? 54).map (fun i => (i.zero, i.size, i.bytes)) = some (some (.pointer none), 1, 8) := by kernel_rfl

set_option maxRecDepth 100000 in
set_option maxHeartbeats 1000000 in
theorem tables_no (m : Int) (A : Option Addr) (n cap : Nat) (w : World) (hm : m < 0 ∨ 8 < m) :
    Calls Try.prog 7 #[.int .i64 m, .slice A n cap] w fun e w' => e = .returned (.bool true) ∧ Fr [] w w' := by
  have HN := Lib.hid fun w => New_no m w hm
  have HR := Lib.hid fun w => rNew_no m w hm
  clear hm
  go_enter Try.func7, Try.ntmps7
  go_wp2_with fail
  refine (HN.out _).mono ?_
  rintro e w1 ⟨rfl, rfl⟩
  go_wp2_with fail
  refine (HR.out _).mono ?_
  rintro e w1 ⟨rfl, rfl⟩
  go_wp2_with fail
  refine (fixed_any _).mono ?_
  rintro e w3 ⟨rfl, hf3⟩
  go_wp2_with fail
  go_ret
  exact ⟨rfl, hf3⟩

/-- What holds at the head of a round. -/
def TX (w : World) (m mm k : Nat) (xv yv : Value) (W : World) : Prop := ∃ (ps : List (Nat × Nat)) (qs : List (Nat × Nat × Nat)) (sts : List (List (Bool × Int))), mm = sts.length ∧ TI w m ps qs sts sts k xv yv W
theorem keep2 {w w' : World} {S : List Nat} {a b i j : Nat} {u v : Value} (h : Fr S w w') (h1 : w.cell? ⟨a, i, none⟩ = some u) (h2 : w.cell? ⟨b, j, none⟩ = some v) (n1 : a ∉ S) (n2 : b ∉ S) : w'.cell? ⟨a, i, none⟩ = some u ∧ w'.cell? ⟨b, j, none⟩ = some v :=
  ⟨h.cell_some h1 n1, h.cell_some h2 n2⟩
theorem keep3 {w w' : World} {S : List Nat} {a b c i j l : Nat} {u v t : Value} (h : Fr S w w') (h1 : w.cell? ⟨a, i, none⟩ = some u) (h2 : w.cell? ⟨b, j, none⟩ = some v) (h3 : w.cell? ⟨c, l, none⟩ = some t) (n1 : a ∉ S) (n2 : b ∉ S) (n3 : c ∉ S) :
    w'.cell? ⟨a, i, none⟩ = some u ∧ w'.cell? ⟨b, j, none⟩ = some v ∧ w'.cell? ⟨c, l, none⟩ = some t :=
  ⟨h.cell_some h1 n1, h.cell_some h2 n2, h.cell_some h3 n3⟩

theorem TX.start {w w2 : World} {m p g q g' h' : Nat} (hw : Fr [] w w2) (hT : TabAt w2 p g (new0 m)) (hR : RTab w2 q g' h' (new0 m)) (n1 : w.heap.size ≤ g) (n2 : w.heap.size ≤ g') (n3 : w.heap.size ≤ h') :
    TX w m 1 0 (.slice (some ⟨w2.heap.size, 0, none⟩) 1 1) (.slice (some ⟨w2.heap.size + 1, 0, none⟩) 1 1) ((w2.alloc (.cells #[PR p] 43)).alloc (.cells #[PR q] 54)) := by
  have hs := hw.size
  have hf : Fr [] w2 ((w2.alloc (.cells #[PR p] 43)).alloc (.cells #[PR q] 54)) := ((Fr.refl _ _).alloc _).alloc _
  refine ⟨[(p, g)], [(q, g', h')], [new0 m], rfl, rfl, rfl, by simp, by simp, ?_, ?_, ?_, ?_, ?_, ?_, ⟨rfl, .inr ⟨w2.heap.size, 1, #[PR p], rfl, hs, ?_, by simp, by simp [maxLen], rfl, rfl⟩⟩, ⟨rfl, .inr ⟨w2.heap.size + 1, 1, #[PR q], rfl, by omega, ?_, by simp, by simp [maxLen], rfl, rfl⟩⟩, by simp; omega, by simp; omega, hw.trans hf⟩
  · intro i x s hi hs
    cases i with
    | zero => simp at hi hs; subst hi; subst hs; exact hT.fr hf (by simp) (by simp)
    | succ i => simp at hi
  · intro i x s hi hs
    cases i with
    | zero => simp at hi hs; subst hi; subst hs; exact hR.fr hf (by simp) (by simp) (by simp)
    | succ i => simp at hi
  · intro i j x x' hij hi hj
    have h1 := (List.getElem?_eq_some_iff.1 hi).1
    have h2 := (List.getElem?_eq_some_iff.1 hj).1
    simp at h1 h2
    omega
  · intro i j x x' hij hi hj
    have h1 := (List.getElem?_eq_some_iff.1 hi).1
    have h2 := (List.getElem?_eq_some_iff.1 hj).1
    simp at h1 h2
    omega
  · intro s hs
    simp at hs
    subst hs
    exact ⟨by simp [new0], new0_bd m⟩
  · intro s hs
    simp at hs
    subst hs
    exact ⟨by simp [new0], new0_bd m⟩
  · exact (Blk.new w2 43 #[PR p]).alloc _
  · exact Blk.new' (by simp)

set_option maxRecDepth 100000 in
set_option maxHeartbeats 4000000 in
theorem tables_ok (m : Nat) (A : Option Addr) (n cap : Nat) (ops : Nat → Op3) (w : World) (hm : m ≤ 8) (hn : n ≤ 5864062014634) (hO : OpsIn w A n ops) (hOn : ∀ i, i < n → -9223372036854775808 ≤ (ops i).On ∧ (ops i).On ≤ 9223372036854775807) :
    Calls Try.prog 7 #[.int .i64 (m : Int), .slice A n cap] w fun e w' => e = .returned (.bool true) ∧ Fr [] w w' := by
  have HN := Lib.hid fun w => New_ok m w hm
  have HR := Lib.hid fun w => rNew_ok m w hm
  have HO := Lib.hid hO
  have HOn := Lib.hid hOn
  clear hO hOn
  obtain ⟨i5, hi5, ha0, ha1, ha2⟩ := info3 Try.info43
  obtain ⟨i4, hi4, hb0, hb1, hb2⟩ := info3 Try.info54
  go_enter Try.func7, Try.ntmps7
  go_wp2_with fail
  refine (HN.out _).mono ?_
  rintro e w1 ⟨p, g, rfl, ht1, hf1, hp1, hg1⟩
  go_wp2_with fail
  refine (HR.out _).mono ?_
  rintro e w2 ⟨q, g', h', rfl, ht2, hf2, hp2, hg2, hh2⟩
  have hI0 := TX.start (hf1.trans hf2) (by simpa using ht1.fr hf2 (by simp) (by simp)) ht2 hg1 (by have := hf1.size; omega) (by have := hf1.size; omega)
  have HI0 := Lib.hid hI0
  clear hI0 ht1 ht2 hf1 hf2 hp1 hg1 hp2 hg2 hh2 HN HR
  go_wp2_with fail
  go_loopg [9, 10, 11] n (fun gg xv yv i wr => ∃ (k mm c1 c2 : Nat) (A1 A2 : Option Addr), k + gg = n ∧ i = .int .i64 k ∧ xv = .slice A1 mm c1 ∧ yv = .slice A2 mm c2 ∧ TX w m mm k (.slice A1 mm c1) (.slice A2 mm c2) wr)
  case atStart => exact ⟨0, _, _, _, _, _, by omega, rfl, rfl, rfl, HI0.out⟩
  case round =>
    obtain ⟨k, mm, c1, c2, A1, A2, hk, rfl, rfl, rfl, ps, qs, sts, hml, hI⟩ := hrel
    have HI := Lib.hid hI
    have Hk := Lib.hid hk
    have hlp := hI.lp
    have hlq := hI.lq
    have hmN : mm ≤ n + 1 := by have := hI.lN; omega
    have hm0 : 0 < mm := by have := hI.pos; omega
    by_cases hlt : k < n
    · obtain ⟨b, off, hA, hbl, d0, d1, d2⟩ := (HO.out.fr hI.fr) k hlt
      subst hA
      have hOnk := HOn.out k hlt
      generalize ops k = o at *
      obtain ⟨j, hj, hjm⟩ : ∃ j : Nat, o.On % (mm : Int) = (j : Int) ∧ j < mm := by
        have h1 := Int.emod_nonneg o.On (by omega : (mm : Int) ≠ 0)
        have h2 := Int.emod_lt_of_pos o.On (by omega : (0 : Int) < mm)
        exact ⟨(o.On % (mm : Int)).toNat, by omega, by omega⟩
      obtain ⟨⟨p', pg⟩, hpj⟩ : ∃ x, ps[j]? = some x := ⟨_, List.getElem?_eq_getElem (by omega)⟩
      obtain ⟨⟨q', qg, qh⟩, hqj⟩ : ∃ x, qs[j]? = some x := ⟨_, List.getElem?_eq_getElem (by omega)⟩
      obtain ⟨st, hsj⟩ : ∃ x, sts[j]? = some x := ⟨_, List.getElem?_eq_getElem (by omega)⟩
      have hstv := hI.lnp st (List.mem_of_getElem? hsj)
      have hplace := fun w => place_any o.On (mm : Int) w (by omega) (by omega) hOnk.1 hOnk.2
      rw [hj] at hplace
      have Hplace := Lib.hid hplace
      obtain ⟨gx, capx, hx1, hx2, cx, hx3⟩ := hI.cellX hpj
      obtain ⟨gy, capy, hy1, hy2, cy, hy3⟩ := hI.cellY hqj
      injection hx1 with hx1 e1 e2
      clear e1 e2
      injection hy1 with hy1 e1 e2
      clear e1 e2
      subst hx1; subst hy1
      have hP := hI.hp j _ _ hpj hsj
      have hQ := hI.hq j _ _ hqj hsj
      have Hpj := Lib.hid hpj
      have Hqj := Lib.hid hqj
      have Hsj := Lib.hid hsj
      have Hml := Lib.hid hml
      have hj0 : (0 : Int) ≤ (j : Int) := by omega
      have hj1 : (j : Int) < (mm : Int) := by omega
      have Hne : Hid (gx ∉ [pg] ∧ gy ∉ [pg] ∧ wr.heap.size ∉ [pg] ∧ gx ∉ [qg, qh] ∧ gy ∉ [qg, qh] ∧ wr.heap.size ∉ [qg, qh]) := Lib.hid (by
        have l1 := hP.lt.2
        have l2 := hQ.lt.2
        refine ⟨?_, ?_, ?_, ?_, ?_, ?_⟩
        · simp; exact ne_of_blk ⟨cx, hx3⟩ hP.bg (by decide)
        · simp; exact ne_of_blk ⟨cy, hy3⟩ hP.bg (by decide)
        · simp; simp only at l1; omega
        · simp; exact ⟨ne_of_blk ⟨cx, hx3⟩ hQ.bg (by decide), ne_of_blk ⟨cx, hx3⟩ hQ.bh (by decide)⟩
        · simp; exact ⟨ne_of_blk ⟨cy, hy3⟩ hQ.bg (by decide), ne_of_blk ⟨cy, hy3⟩ hQ.bh (by decide)⟩
        · simp; simp only at l2; omega)
      have hgxl := hx3.lt
      have hgyl := hy3.lt
      have HIa := Lib.hid ((hI.al ((Fr.refl [] wr).alloc (.cells #[.int .i64 o.On, .int .i64 o.K, .int .i64 o.P] 47))).mono (Nat.le_succ k))
      have Hob := Lib.hid (Blk.new wr 47 #[.int .i64 o.On, .int .i64 o.K, .int .i64 o.P])
      have hst8 : st.length ≤ 8 := by have := hstv.1; omega
      have hbd : ∀ x, x ∈ st → 0 ≤ x.2 ∧ x.2 ≤ 4611686018427387904 := fun x hx => by have := hstv.2 x hx; omega
      have Hbe : Hid (Bd (k + 1) (entS st o.P)) := Lib.hid (hstv.2.entS _)
      have Hbt : Hid (Bd (k + 1) (trapS st o.P)) := Lib.hid ((hstv.2.trapS _).mono (Nat.le_succ k))
      have HE1 := Lib.hid fun W h => Enter_any p' pg st W o.P h hst8 hbd
      have HE2 := Lib.hid fun W h => rEnter_any q' qg qh st W o.P h hst8 hbd
      have HT1 := Lib.hid fun W h => Trap_any p' pg st W o.P h hst8
      have HT2 := Lib.hid fun W h => rTrap_any q' qg qh st W o.P h hst8
      have HC1 := Lib.hid fun W h => Clone_any p' pg st W h hst8
      have HC2 := Lib.hid fun W h => rCopy_any q' qg qh st W h hst8
      have hmm2 : mm ≤ 6000000000000 := by omega
      clear hI hP hQ hpj hqj hsj hml hplace hj hk hx3 hy3 hstv hbd hlp hlq
      by_cases k0 : o.K = 0
      · have t0 : (o.K == 0) = true := by simp [k0]
        clear k0
        go_wp2_with (first
          | (go_at_call 25; go_must ((with_reducible refine (Hplace.out _).mono ?_); rintro e w2 ⟨rfl, rfl⟩))
          | fail)
        generalize hW : wr.alloc (.cells #[.int .i64 o.On, .int .i64 o.K, .int .i64 o.P] 47) = W at *
        have x2 : W.cell? ⟨gx, j, none⟩ = some (PR p') := by rw [← hW]; exact ((Fr.refl [] wr).alloc _).cell_some hx2 (by simp)
        have y2 : W.cell? ⟨gy, j, none⟩ = some (PR q') := by rw [← hW]; exact ((Fr.refl [] wr).alloc _).cell_some hy2 (by simp)
        have o2 := Hob.out.cell 2
        simp at o2
        have ho : wr.heap.size < W.heap.size := Hob.out.lt
        have hgx2 : gx < W.heap.size := by omega
        have hgy2 : gy < W.heap.size := by omega
        clear hW hx2 hy2 d0 d1 d2 hbl
        generalize wr.heap.size = ob at *
        have hPd : TabAt W.drew p' pg st := HIa.out.hp j _ _ Hpj.out Hsj.out
        go_region_held3 (fun w' => w'.cell? ⟨gx, j, none⟩ = some (PR p') ∧ w'.cell? ⟨ob, 2, none⟩ = some (.int .i64 o.P))
          (first
            | exact ⟨x2, o2⟩
            | exact kk)
          ((go_at_call 20; (with_reducible refine (HE1.out _ hPd).mono ?_); rintro e w3 ⟨rfl, hp3, hf3⟩; have kk := keep2 hf3 x2 o2 Hne.out.1 Hne.out.2.2.1))
        have hT1 := HIa.out.drew.setP Hpj.out Hsj.out hp3 hf3 (entS_len _ _) Hbe.out
        have hQd : RTab w3.drew q' qg qh st := hT1.hq j _ _ Hqj.out Hsj.out
        have y3 := hf3.cell_some (p := ⟨gy, j, none⟩) y2 Hne.out.2.1
        have HT3 := Lib.hid hT1.drew
        have Hs3 := hf3.size
        obtain ⟨x3, o3⟩ := kk
        clear hT1 hp3 hPd x2 y2 o2 x3
        go_wp2_with fail
        go_region_held3 (fun w' => w'.cell? ⟨gy, j, none⟩ = some (PR q') ∧ w'.cell? ⟨ob, 2, none⟩ = some (.int .i64 o.P))
          (first
            | exact ⟨y3, o3⟩
            | exact ll)
          ((go_at_call 26; (with_reducible refine (HE2.out _ hQd).mono ?_); rintro e w4 ⟨rfl, hq4, hf4⟩; have ll := keep2 hf4 y3 o3 Hne.out.2.2.2.2.1 Hne.out.2.2.2.2.2))
        have hT4 := HT3.out.setQ Hqj.out Hsj.out hq4 hf4 (entS_len _ _) Hbe.out
        have HT4 := Lib.hid hT4
        clear hT4 hq4
        generalize entB st o.P = B at *
        generalize argE st o.P = E at *
        go_wp2_with fail
        go_roundg (n - (k + 1))
        case measure => have := Hk.out; omega
        case rel => exact ⟨k + 1, mm, c1, c2, _, _, by have := Hk.out; omega, by go_num, rfl, rfl, ps, qs, _, by simp [Hml.out], HT4.out⟩
      · have t0 : (o.K == 0) = false := by rw [beq_eq_false_iff_ne]; exact k0
        clear k0
        by_cases k1 : o.K = 1
        · have t1 : (o.K == 1) = true := by simp [k1]
          clear k1
          go_wp2_with (first
            | (go_at_call 25; go_must ((with_reducible refine (Hplace.out _).mono ?_); rintro e w2 ⟨rfl, rfl⟩))
            | fail)
          generalize hW : wr.alloc (.cells #[.int .i64 o.On, .int .i64 o.K, .int .i64 o.P] 47) = W at *
          have x2 : W.cell? ⟨gx, j, none⟩ = some (PR p') := by rw [← hW]; exact ((Fr.refl [] wr).alloc _).cell_some hx2 (by simp)
          have y2 : W.cell? ⟨gy, j, none⟩ = some (PR q') := by rw [← hW]; exact ((Fr.refl [] wr).alloc _).cell_some hy2 (by simp)
          have o2 := Hob.out.cell 2
          simp at o2
          have ho : wr.heap.size < W.heap.size := Hob.out.lt
          have hgx2 : gx < W.heap.size := by omega
          have hgy2 : gy < W.heap.size := by omega
          clear hW hx2 hy2 d0 d1 d2 hbl
          generalize wr.heap.size = ob at *
          have hPd : TabAt W.drew p' pg st := HIa.out.hp j _ _ Hpj.out Hsj.out
          have hQd : RTab W.drew q' qg qh st := HIa.out.hq j _ _ Hqj.out Hsj.out
          have tok : True := trivial
          go_region_held3 (fun w' => w'.cell? ⟨gx, j, none⟩ = some (PR p') ∧ w'.cell? ⟨gy, j, none⟩ = some (PR q') ∧ w'.cell? ⟨ob, 2, none⟩ = some (.int .i64 o.P))
            (first
              | exact ⟨x2, y2, o2⟩
              | exact kk
              | exact ll)
            ((first
              | (go_at_call 21; have _t := tok; (with_reducible refine (HT1.out _ hPd).mono ?_); rintro e w3 ⟨rfl, hp3, hf3⟩; have hT3 := HIa.out.drew.setP Hpj.out Hsj.out hp3 hf3 (trapS_len _ _) Hbt.out; have hq3 : RTab w3 q' qg qh st := hT3.hq j _ _ Hqj.out Hsj.out; have kk := keep3 hf3 x2 y2 o2 Hne.out.1 Hne.out.2.1 Hne.out.2.2.1; clear tok)
              | (go_at_call 27; (with_reducible refine (HT2.out _ hq3).mono ?_); rintro e w4 ⟨rfl, hq4, hf4⟩; have hT4 := hT3.setQ Hqj.out Hsj.out hq4 hf4 (trapS_len _ _) Hbt.out; have ll := keep3 hf4 kk.1 kk.2.1 kk.2.2 Hne.out.2.2.2.1 Hne.out.2.2.2.2.1 Hne.out.2.2.2.2.2)
              | (go_at_call 27; have _t := tok; (with_reducible refine (HT2.out _ hQd).mono ?_); rintro e w3 ⟨rfl, hq3, hf3⟩; have hT3 := HIa.out.drew.setQ Hqj.out Hsj.out hq3 hf3 (trapS_len _ _) Hbt.out; have hp3 : TabAt w3 p' pg st := hT3.hp j _ _ Hpj.out Hsj.out; have kk := keep3 hf3 x2 y2 o2 Hne.out.2.2.2.1 Hne.out.2.2.2.2.1 Hne.out.2.2.2.2.2; clear tok)
              | (go_at_call 21; (with_reducible refine (HT1.out _ hp3).mono ?_); rintro e w4 ⟨rfl, hp4, hf4⟩; have hT4 := hT3.setP Hpj.out Hsj.out hp4 hf4 (trapS_len _ _) Hbt.out; have ll := keep3 hf4 kk.1 kk.2.1 kk.2.2 Hne.out.1 Hne.out.2.1 Hne.out.2.2.1)))
          all_goals
            have HT4 := Lib.hid hT4
            clear hT4
            generalize argE st o.P = E at *
            go_wp2_with fail
            go_roundg (n - (k + 1))
            case measure => have := Hk.out; omega
            case rel => exact ⟨k + 1, mm, c1, c2, _, _, by have := Hk.out; omega, by go_num, rfl, rfl, ps, qs, _, by simp [Hml.out], HT4.out⟩
        · have t1 : (o.K == 1) = false := by rw [beq_eq_false_iff_ne]; exact k1
          clear k1
          by_cases k2 : o.K = 2
          · have t2 : (o.K == 2) = true := by simp [k2]
            clear k2
            go_upto_region 23 with (first
              | (go_at_call 25; go_must ((with_reducible refine (Hplace.out _).mono ?_); rintro e w2 ⟨rfl, rfl⟩))
              | fail)
            generalize hW : wr.alloc (.cells #[.int .i64 o.On, .int .i64 o.K, .int .i64 o.P] 47) = W at *
            have x2 : W.cell? ⟨gx, j, none⟩ = some (PR p') := by rw [← hW]; exact ((Fr.refl [] wr).alloc _).cell_some hx2 (by simp)
            have y2 : W.cell? ⟨gy, j, none⟩ = some (PR q') := by rw [← hW]; exact ((Fr.refl [] wr).alloc _).cell_some hy2 (by simp)
            have o2 := Hob.out.cell 2
            simp at o2
            have ho : wr.heap.size < W.heap.size := Hob.out.lt
            have hgx2 : gx < W.heap.size := by omega
            have hgy2 : gy < W.heap.size := by omega
            clear hW hx2 hy2 d0 d1 d2 hbl
            generalize wr.heap.size = ob at *
            have hWs := HIa.out.fr.size
            have hT0 := HIa.out
            have hl1 := hT0.lp
            have hl2 := hT0.lq
            have hlm := Hml.out
            have hlk := HI.out.lN.1
            have hPd : TabAt W p' pg st := hT0.hp j _ _ Hpj.out Hsj.out
            have HLs : Hid (ps.length = mm ∧ qs.length = mm ∧ sts.length + 1 ≤ k.succ + 1) := Lib.hid ⟨by omega, by omega, by omega⟩
            clear hl1 hl2 hlm hlk hT0
            go_wp2_with (first
              | (go_at_call 28; go_must ((with_reducible refine (HC1.out _ hPd).mono ?_); rintro e w3 ⟨p2, g2, rfl, ht3, hf3, hpe, hge⟩; have hX0 := (own_fr HIa.out.ox hf3 (by simp)).alloc (.cells #[PR p2] 43); rw [HLs.out.1] at hX0; have hs3 := hf3.size))
              | (at_builtin
                 refine wpList_append_own _ rfl (.tmp 121) (.tmp 123) 57 rfl w.heap.size 43 i5 (.pointer none) 1 8 Try.underlying57 hi5 ha0 ha1 ha2 rfl (by decide) _ _ _ rfl hX0 ⟨w3.heap.size, 0, none⟩ 1 1 [PR p2] rfl rfl (news1 (by simp [go_sem])) (by simp [Value.oneCell']) (by simp only [maxLen]; omega) (by omega) (by simp; omega) ?_
                 go_must (intro x' w4 hox4 hgx4 _; have hM := HIa.out.pushP Hsj.out ht3 hf3 hge hX0 hgx4 (by rw [HLs.out.1]; exact hox4) HLs.out.2.2; obtain ⟨kx, px, rfl⟩ := own_succ hox4; have hQ4 : RTab w4 q' qg qh st := hM.hq j _ _ Hqj.out Hsj.out; obtain ⟨gy2, capy2, hy1, y4, cy2, hy3⟩ := hM.cellY Hqj.out; have eg : gy2 = gy := (by simp only [Value.slice.injEq, Option.some.injEq, Addr.mk.injEq] at hy1; exact hy1.1.1.symm); rw [eg] at y4; clear hy1 eg hy3))
              | (go_at_call 29; go_must ((with_reducible refine (HC2.out _ hQ4).mono ?_); rintro e w5 ⟨q2, g4, h4, rfl, ht5, hf5, hqe, hge5, hhe5⟩; have hY0 := (own_fr hM.oy hf5 (by simp)).alloc (.cells #[PR q2] 54); rw [HLs.out.2.1] at hY0; have hs4 := hM.fr.size; have hs5 := hf5.size))
              | (at_builtin
                 refine wpList_append_own _ rfl (.tmp 125) (.tmp 131) 58 rfl w.heap.size 54 i4 (.pointer none) 1 8 Try.underlying58 hi4 hb0 hb1 hb2 rfl (by decide) _ _ _ rfl hY0 ⟨w5.heap.size, 0, none⟩ 1 1 [PR q2] rfl rfl (news1 (by simp [go_sem])) (by simp [Value.oneCell']) (by simp only [maxLen]; omega) (by omega) (by simp; omega) ?_
                 go_must (intro y' w6 hoy6 hgy6 _; have HT6 := Lib.hid (hM.pushQ Hsj.out ht5 hf5 hge5 hhe5 hY0 hgy6 (by rw [HLs.out.2.1]; exact hoy6) HLs.out.2.2); obtain ⟨ky, py, rfl⟩ := own_succ hoy6))
              | fail)
            go_roundg (n - (k + 1))
            case measure => have := Hk.out; omega
            case rel => exact ⟨k + 1, mm + 1, _, _, _, _, by have := Hk.out; omega, by go_num, rfl, rfl, _, _, _, by simp [Hml.out], HT6.out⟩
          · have t2 : (o.K == 2) = false := by rw [beq_eq_false_iff_ne]; exact k2
            clear k2
            clear hx2 hy2
            go_wp2_with (first
              | (go_at_call 25; go_must ((with_reducible refine (Hplace.out _).mono ?_); rintro e w2 ⟨rfl, rfl⟩))
              | fail)
            go_roundg (n - (k + 1))
            case measure => have := Hk.out; omega
            case rel => exact ⟨k + 1, mm, c1, c2, _, _, by have := Hk.out; omega, by go_num, rfl, rfl, ps, qs, _, by simp [Hml.out], HIa.out⟩
    · have hkn : k ≤ 6000000000000 := by omega
      have hmm2 : mm ≤ 6000000000000 := by omega
      have HIx : Hid (TX w m mm k (.slice A1 mm c1) (.slice A2 mm c2) wr) := Lib.hid ⟨ps, qs, sts, hml, hI⟩
      clear hk hmN hI HOn HO HI hml hlp hlq
      clear ps qs sts
      go_wp2_with fail
      go_loopg [19] mm (fun gg i wy => ∃ x : Nat, x + gg = mm ∧ i = .int .i64 x ∧ TX w m mm k (.slice A1 mm c1) (.slice A2 mm c2) wy)
      case atStart => exact ⟨0, by omega, rfl, HIx.out⟩
      case round =>
        clear HIx
        obtain ⟨x, hx, rfl, ps, qs, sts, hml, hI⟩ := hrel
        have HI := Lib.hid hI
        have Hx := Lib.hid hx
        by_cases hxm : x < mm
        · have hlp := hI.lp
          have hlq := hI.lq
          obtain ⟨⟨p', pg⟩, hpj⟩ : ∃ y, ps[x]? = some y := ⟨_, List.getElem?_eq_getElem (by omega)⟩
          obtain ⟨⟨q', qg, qh⟩, hqj⟩ : ∃ y, qs[x]? = some y := ⟨_, List.getElem?_eq_getElem (by omega)⟩
          obtain ⟨st, hsj⟩ : ∃ y, sts[x]? = some y := ⟨_, List.getElem?_eq_getElem (by omega)⟩
          have hst8 : st.length ≤ 8 := by have := (hI.lnp st (List.mem_of_getElem? hsj)).1; omega
          have Hpj := Lib.hid hpj
          have Hqj := Lib.hid hqj
          have Hsj := Lib.hid hsj
          have Hml := Lib.hid hml
          have hm1 : (x : Int) < (mm : Int) := by omega
          clear hI hpj hqj hsj hml hlp hlq hx
          go_wp2_with fail
          go_loopg [20] 11 (fun gg i wz => ∃ z : Int, z + gg = 10 ∧ -1 ≤ z ∧ i = .int .i64 z ∧ TI w m ps qs sts sts k (.slice A1 mm c1) (.slice A2 mm c2) wz)
          case atStart => exact ⟨-1, by omega, by omega, rfl, HI.out⟩
          case round =>
            clear HI
            obtain ⟨z, hz, hz1, rfl, hI⟩ := hrel
            have HI := Lib.hid hI
            have Hz := Lib.hid hz
            by_cases hzl : z < 10
            · obtain ⟨gx, capx, hx1, hx2, cx, hx3⟩ := hI.cellX Hpj.out
              obtain ⟨gy, capy, hy1, hy2, cy, hy3⟩ := hI.cellY Hqj.out
              injection hx1 with hx1 e1 e2
              clear e1 e2
              injection hy1 with hy1 e1 e2
              clear e1 e2
              subst hx1; subst hy1
              have hP : TabAt wr p' pg st := hI.hp x _ _ Hpj.out Hsj.out
              have hQ : RTab wr q' qg qh st := hI.hq x _ _ Hqj.out Hsj.out
              have HR1 := Lib.hid fun W h => Runs_any p' pg st W z h hst8
              have HR2 := Lib.hid fun W h => rRuns_any q' qg qh st W z h hst8
              have HS1 := Lib.hid fun W h => Starts_any p' pg st W z h hst8
              have HS2 := Lib.hid fun W h => rStarts_any q' qg qh st W z h hst8
              generalize runsV st z = B at *
              generalize startsV st z = E at *
              have hB : (B != B) = false := by simp
              have hE : (E != E) = false := by simp
              clear hI hx3 hy3 hz
              go_wp2_with fail
              go_quiet (first
                | (go_at_call 22; exact Calls.quiet_of_same (same_of (HR1.out _ hP)))
                | (go_at_call 30; exact Calls.quiet_of_same (same_of (HR2.out _ hQ)))
                | (go_at_call 23; exact Calls.quiet_of_same (same_of (HS1.out _ hP)))
                | (go_at_call 31; exact Calls.quiet_of_same (same_of (HS2.out _ hQ))))
              go_wp2
              go_roundg (9 - z).toNat
              case measure => have := Hz.out; omega
              case rel => exact ⟨z + 1, by have := Hz.out; omega, by omega, by go_num, HI.out.drewN _⟩
            · have hz10 : z = 10 := by omega
              subst hz10
              clear hI hz
              go_wp2_with fail
              go_roundg (mm - (x + 1))
              case measure => have := Hx.out; omega
              case rel => exact ⟨x + 1, by have := Hx.out; omega, by go_num, ps, qs, sts, Hml.out, HI.out⟩
        · clear hx hml hI
          go_wp2_with (go_at_call 18; go_must ((with_reducible refine (fixed_any _).mono ?_); rintro e w5 ⟨rfl, hf5⟩))
          go_ret
          exact ⟨rfl, HI.out.fr.trans hf5⟩

theorem tables_walk (m : Int) (A : Option Addr) (n cap : Nat) (ops : Nat → Op3) (w : World) (hO : OpsIn w A n ops) (hn : n ≤ 5864062014634) (hOn : ∀ i, i < n → -9223372036854775808 ≤ (ops i).On ∧ (ops i).On ≤ 9223372036854775807) :
    Calls Try.prog 7 #[.int .i64 m, .slice A n cap] w fun e w' => e = .returned (.bool true) ∧ Fr [] w w' := by
  by_cases hm : m < 0 ∨ 8 < m
  · exact tables_no m A n cap w hm
  · obtain ⟨m', rfl⟩ : ∃ m' : Nat, m = m' := ⟨m.toNat, by omega⟩
    exact tables_ok m' A n cap ops w (by omega) hn hO hOn
end Go.Proofs.Ytnpdljmgjpngaaa

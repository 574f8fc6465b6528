/- PortBlind's walk. -/
import Derived.Test.YtblidpafeiiniaaW6
import Derived.Test.YtblidpafeiiniaaOps
import Derived.Deep.RegionWith
import Derived.Deep.DeepCutAuto
import Derived.Deep.LoopGhost
import Derived.Deep.RegionHeld3
import Derived.Deep.DeepMust
namespace Go.Proofs.Ytblidpafeiiniaa
open Go.RowKit

theorem PortAt.alloc {w : World} {p : Nat} {s : PS} (h : PortAt w p s) (o : Obj) : PortAt (w.alloc o) p s := h.fr (S := []) ((Fr.refl _ _).alloc _) (by simp) (by simp)
theorem PortAt.frOne {w w' : World} {p q : Nat} {s s' : PS} (h : PortAt w q s) (hp : PortAt w p s') (hf : Fr [p] w w') (hne : q ≠ p) : PortAt w' q s :=
  h.fr hf (by simp [hne]) (fun k hk cs => by simp at hk; subst hk; exact hp.not62 cs)
/-- What the two ports of PortBlind are at the head of a round. -/
def BlindInv (w : World) (p q : Nat) (k : Nat) (wr : World) (S : Int) : Prop :=
  ∃ sp sq : PS, PortAt wr p sp ∧ PortAt wr q sq ∧ PV sp k ∧ PV sq k ∧ sp.S = S ∧ sq.S = S ∧ Fr [] w wr

set_option maxHeartbeats 1000000 in
theorem blind_no (K F T S D : Int) (sv bv : Value) (w : World) (hok : okC K F T S D = false) :
    Calls Try.prog 4 #[cfg K F T S D, sv, bv] w fun e w' => e = .returned (.bool true) ∧ Fr [] w w' := by
  have Hok := Lib.hid hok; clear hok
  have hcfg : ∀ w, Calls Try.prog 7 #[.agg #[.int .i64 K, .int .i64 F, .int .i64 T, .int .i64 S, .int .i64 D]] w fun e w' => e = .returned (.tuple #[.pointer none, .int .i64 140]) ∧ Fr [] w w' := fun w => new_no K F T S D w Hok.out
  have Hcfg := Lib.hid hcfg; clear hcfg
  unfold cfg
  go_enter Try.func4, Try.ntmps4
  have hc0 := fun (w1 : World) (hf : Fr [] (w.alloc (.cells #[.int .i64 K, .int .i64 F, .int .i64 T, .int .i64 S, .int .i64 D] 23)) w1) (i : Nat) => hf.cell (p := ⟨w.heap.size, i, none⟩) (by simp) (by simp)
  have Hc0 := Lib.hid hc0; clear hc0
  have tok : True := trivial
  go_wp2_with (first
    | (go_at_call 7; have _t := tok; (with_reducible refine (Hcfg.out _).mono ?_); rintro e w1 ⟨rfl, hf1⟩; have hcc := Hc0.out _ hf1; clear tok)
    | (go_at_call 7; (with_reducible refine (Hcfg.out _).mono ?_); rintro e w2 ⟨rfl, hf2⟩)
    | (go_at_call 9; (with_reducible refine (fixed_any _).mono ?_); rintro e w3 ⟨rfl, hf3⟩))
  go_ret
  exact ⟨rfl, (((Fr.refl _ _).alloc _).trans hf1).trans (hf2.trans hf3)⟩

set_option maxHeartbeats 1000000 in
theorem blind_ok (K F T S D : Int) (A B : Option Addr) (n cap m capB : Nat) (ops bops : Nat → OpD) (w : World) (hok : okC K F T S D = true) (hs : OpsIn w (.slice A n cap) n ops) (hb : OpsIn w (.slice B m capB) m bops) (hnN : n ≤ 4611686018427387904) :
    Calls Try.prog 4 #[cfg K F T S D, .slice A n cap, .slice B m capB] w fun e w' => e = .returned (.bool true) ∧ Fr [] w w' := by
  have hcfg : ∀ w, Calls Try.prog 7 #[.agg #[.int .i64 K, .int .i64 F, .int .i64 T, .int .i64 S, .int .i64 D]] w (NewOk w (ps0 K F T S D)) := fun w => new_ok K F T S D w hok
  have Hok := Lib.hid hok; clear hok
  have Hcfg := Lib.hid hcfg; clear hcfg
  have hn := hs.1
  have hm := hb.1
  unfold maxLen at hn hm
  have Hs := Lib.hid hs; clear hs
  have Hb := Lib.hid hb; clear hb
  unfold cfg
  go_enter Try.func4, Try.ntmps4
  have hc0 := fun (w1 : World) (hf : Fr [] (w.alloc (.cells #[.int .i64 K, .int .i64 F, .int .i64 T, .int .i64 S, .int .i64 D] 23)) w1) (i : Nat) => hf.cell (p := ⟨w.heap.size, i, none⟩) (by simp) (by simp)
  have Hc0 := Lib.hid hc0; clear hc0
  have tok : True := trivial
  go_wp2_with (first
    | (go_at_call 7; have _t := tok; (with_reducible refine (Hcfg.out _).mono ?_); rintro e w1 ⟨p, rfl, hpe, hp1, hf1⟩; have hcc := Hc0.out _ hf1; clear tok)
    | (go_at_call 7; (with_reducible refine (Hcfg.out _).mono ?_); rintro e w2 ⟨q, rfl, hqe, hq2, hf2⟩)
    | fail)
  simp only [World.size_alloc] at hpe
  have hw2 : Fr [] w w2 := (((Fr.refl _ _).alloc _).trans hf1).trans hf2
  have hp2 := hp1.fr hf2 (by simp) (by simp)
  have hpq : p < q := by have hb := hp1; obtain ⟨v, hb, -⟩ := hb; have := hb.lt; omega
  clear hcc Hc0
  have hpw : w.heap.size ≤ p := by omega
  have hqw : w.heap.size ≤ q := by omega
  have Hpq := Lib.hid hpq; clear hpq
  go_loopg [11] n (fun g i wr => ∃ k : Nat, k + g = n ∧ i = .int .i64 k ∧ BlindInv w p q k wr S)
  case atStart => exact ⟨0, by omega, rfl, _, _, hp2, hq2, PV.new Hok.out, PV.new Hok.out, rfl, rfl, hw2⟩
  case round =>
    obtain ⟨k, hk, rfl, hInv⟩ := hrel
    have HI := Lib.hid hInv; clear hInv
    by_cases hlt : k < n
    · obtain ⟨sp, sq, hsp, hsq, hvp, hvq, hSp, hSq, hfr⟩ := HI.out
      obtain ⟨b, off, hA, hbl, c0, c1, c2, c3⟩ := (Hs.out.fr hfr).at_ hlt
      have hbw : b < w.heap.size := by
        obtain ⟨b', off', hA', hbl', _⟩ := Hs.out.at_ hlt
        rw [hA] at hA'; injection hA' with hA'; injection hA' with hb _; omega
      subst hA
      have hsz := (ops k).hS
      have Hsz := Lib.hid hsz; clear hsz
      have HSp := Lib.hid hSp; clear hSp
      have HSq := Lib.hid hSq; clear hSq
      have hkN : k ≤ 4611686018427387904 := by omega
      generalize ho : ops k = o at *
      clear ho c0 c1
      have Hk := Lib.hid hk; clear hk
      have hsp' : PortAt wr.drew p sp := hsp
      have hsq' : PortAt wr.drew q sq := hsq
      have Hqp : Hid (q ≠ p) := Lib.hid (by have := Hpq.out; omega)
      have Hpq' : Hid (p ≠ q) := Lib.hid (by have := Hpq.out; omega)
      have Hbp : Hid (b ∉ [p]) := Lib.hid (by simp; omega)
      have Hbq : Hid (b ∉ [q]) := Lib.hid (by simp; omega)
      have tok : True := trivial
      go_upto_region 8 with (fail)
      go_cut [68] (fun s wx => s = .bool false ∧ BlindInv w p q (k + 1) wx S)
      case first =>
        go_region_held3 (fun w' => w'.cell? ⟨b, off + k * 4 + 2, none⟩ = some (.int .i64 o.Tick) ∧ w'.cell? ⟨b, off + k * 4 + 3, none⟩ = some (.string o.S))
          (first
            | exact ⟨c2, c3⟩
            | exact ⟨k2, k3⟩
            | exact ⟨l2, l3⟩)
          ((first
          | (go_at_call 12; have _t := tok; (with_reducible refine (send_at p sp k S _ _ _ hsp' hvp hkN Hsz.out HSp.out).mono ?_); rintro e w3 ⟨rfl, hp3, hf3⟩; have hq3 := hsq'.frOne hsp' hf3 Hqp.out; have k2 := hf3.cell_some (p := ⟨b, _, none⟩) c2 Hbp.out; have k3 := hf3.cell_some (p := ⟨b, _, none⟩) c3 Hbp.out; clear tok)
          | (go_at_call 12; (with_reducible refine (send_at q sq k S _ _ _ hq3 hvq hkN Hsz.out HSq.out).mono ?_); rintro e w4 ⟨rfl, hq4, hf4⟩; have hp4 := hp3.frOne hq3 hf4 Hpq'.out; have l2 := hf4.cell_some (p := ⟨b, _, none⟩) k2 Hbq.out; have l3 := hf4.cell_some (p := ⟨b, _, none⟩) k3 Hbq.out; have hfz : Fr [] w w4 := Fr.stepNew (Fr.stepNew hfr.drew hf3 hpw) hf4 hqw)
          | (go_at_call 12; have _t := tok; (with_reducible refine (send_at q sq k S _ _ _ hsq' hvq hkN Hsz.out HSq.out).mono ?_); rintro e w3 ⟨rfl, hq3, hf3⟩; have hp3 := hsp'.frOne hsq' hf3 Hpq'.out; have k2 := hf3.cell_some (p := ⟨b, _, none⟩) c2 Hbq.out; have k3 := hf3.cell_some (p := ⟨b, _, none⟩) c3 Hbq.out; clear tok)
          | (go_at_call 12; (with_reducible refine (send_at p sp k S _ _ _ hp3 hvp hkN Hsz.out HSp.out).mono ?_); rintro e w4 ⟨rfl, hp4, hf4⟩; have hq4 := hq3.frOne hp3 hf4 Hqp.out; have l2 := hf4.cell_some (p := ⟨b, _, none⟩) k2 Hbp.out; have l3 := hf4.cell_some (p := ⟨b, _, none⟩) k3 Hbp.out; have hfz : Fr [] w w4 := Fr.stepNew (Fr.stepNew hfr.drew hf3 hqw) hf4 hpw)))
        all_goals
          go_wp2_with fail
          go_meet
          exact ⟨rfl, _, _, hp4, hq4, hvp.send _ _, hvq.send _ _, by rw [sendS_S]; exact HSp.out, by rw [sendS_S]; exact HSq.out, hfz⟩
      case rest =>
        obtain ⟨rfl, hInv⟩ := hcut
        have HI2 := Lib.hid hInv; clear hInv
        clear hsp hsq hvp hvq hfr hsp' hsq' hbl tok c2 c3
        obtain ⟨sp, sq, hsp, hsq, hvp, hvq, hSp, hSq, hfr⟩ := HI2.out
        by_cases hm0 : m = 0
        · have hmt : ((m : Int) == 0) = true := by simp [hm0]
          have Hm0 := Lib.hid hm0; clear hm0
          go_wp2
          go_roundg (n - (k + 1))
          case measure => have := Hk.out; omega
          case rel => exact ⟨k + 1, by omega, by go_num, HI2.out⟩
        · have hmt : ((m : Int) == 0) = false := by rw [beq_eq_false_iff_ne]; omega
          have hjm : k % m < m := Nat.mod_lt k (by omega)
          obtain ⟨b2, off2, hB, hbl2, d0, d1, d2, d3⟩ := (Hb.out.fr hfr).at_ hjm
          subst hB
          have e0 : (0 : Int) ≤ (k : Int) % (m : Int) := by omega
          have e1 : (k : Int) % (m : Int) < (m : Int) := by omega
          have e2 : ((k : Int) % (m : Int)).toNat = k % m := by omega
          have Hbq2 : Hid (wc.heap.size ∉ [q]) := Lib.hid (by obtain ⟨v, hbv, -⟩ := hsq; have := hbv.lt; simp; omega)
          generalize bops (k % m) = o2 at *
          have Hne := Hpq.out
          by_cases hk1 : o2.Kind = 1
          · have t1 : (o2.Kind == 1) = true := by simp [hk1]
            have t2 : (o2.Kind == 2) = false := by rw [beq_eq_false_iff_ne]; omega
            clear hk1
            go_wp2_with (go_at_call 10; go_must ((with_reducible refine (recv_at q sq (k + 1) _ _ (hsq.alloc _) hvq).mono ?_); rintro e w5 ⟨⟨x, y, z, rfl⟩, hq5, hf5⟩; have cc := fun i => hf5.cell (p := ⟨wc.heap.size, i, none⟩) (by simp) Hbq2.out))
            go_roundg (n - (k + 1))
            case measure => have := Hk.out; omega
            case rel => exact ⟨k + 1, by omega, by go_num, _, _, (hsp.alloc _).frOne (hsq.alloc _) hf5 (by omega), hq5, hvp, hvq.recv _, hSp, by rw [recvS_S]; exact hSq, Fr.stepNew (hfr.alloc _) hf5 hqw⟩
          · have t1 : (o2.Kind == 1) = false := by rw [beq_eq_false_iff_ne]; omega
            clear hk1
            by_cases hk2 : o2.Kind = 2
            · have t2 : (o2.Kind == 2) = true := by simp [hk2]
              clear hk2
              go_wp2_with (go_at_call 13; go_must ((with_reducible refine (clear_at q sq _ (hsq.alloc _)).mono ?_); rintro e w5 ⟨rfl, hq5, hf5⟩))
              go_roundg (n - (k + 1))
              case measure => have := Hk.out; omega
              case rel => exact ⟨k + 1, by omega, by go_num, _, _, (hsp.alloc _).frOne (hsq.alloc _) hf5 (by omega), hq5, hvp, hvq.clear, hSp, hSq, Fr.stepNew (hfr.alloc _) hf5 hqw⟩
            · have t2 : (o2.Kind == 2) = false := by rw [beq_eq_false_iff_ne]; omega
              clear hk2
              go_wp2
              go_roundg (n - (k + 1))
              case measure => have := Hk.out; omega
              case rel => exact ⟨k + 1, by omega, by go_num, _, _, hsp.alloc _, hsq.alloc _, hvp, hvq, hSp, hSq, hfr.alloc _⟩
    · obtain ⟨sp, sq, hsp, hsq, hvp, hvq, hSp, hSq, hfr⟩ := HI.out
      go_wp2_with (go_at_call 9; (with_reducible refine (fixed_any _).mono ?_); rintro e w5 ⟨rfl, hf5⟩)
      go_ret
      exact ⟨rfl, hfr.trans hf5⟩
end Go.Proofs.Ytblidpafeiiniaa

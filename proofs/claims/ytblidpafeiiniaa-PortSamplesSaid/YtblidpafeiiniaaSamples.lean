/- PortSamples' walk. -/
import Derived.Test.YtblidpafeiiniaaKeeps
namespace Go.Proofs.Ytblidpafeiiniaa
open Go.RowKit

/-- A sampling port's states: with a message, without one. -/
def sT (F T S D : Int) (m : ByteArray) (t : Int) : PS := ⟨0, F, T, S, D, [(m, t)], 0⟩
def sF (F T S D : Int) : PS := ⟨0, F, T, S, D, [], 0⟩
theorem len1 (F T S D : Int) (m : ByteArray) (t : Int) (p : Nat) (w : World) (h : PortAt w p (sT F T S D m t)) : Calls Try.prog 11 #[ptr p] w fun e w' => e = .returned (.int .i64 1) ∧ w = w' := len_any p _ w h
theorem len0 (F T S D : Int) (p : Nat) (w : World) (h : PortAt w p (sF F T S D)) : Calls Try.prog 11 #[ptr p] w fun e w' => e = .returned (.int .i64 0) ∧ w = w' := len_any p _ w h
theorem keep1 (s : PS) (F T S D : Int) (p : Nat) (w : World) (m : ByteArray) (t : Int) (h : PortAt w p s) (hs : s.F = F ∧ s.T = T ∧ s.S = S ∧ s.D = D ∧ s.K = 0 ∧ s.lost = 0) (h1 : 0 ≤ t) (h2 : t ≤ 1099511627776) (hl : m.size ≤ S) (hm : m.size ≤ maxLen) :
    Calls Try.prog 12 #[ptr p, .string m, .int .i64 t] w fun e w' => e = .returned (.int .i64 0) ∧ PortAt w' p (sT F T S D m t) ∧ Fr [p] w w' := by
  obtain ⟨rfl, rfl, rfl, rfl, hK, hL⟩ := hs
  refine (send_keep p s w m t h h1 h2 hl hm hK).mono ?_
  rintro e w' ⟨he, hp, hf⟩
  refine ⟨he, ?_, hf⟩
  have : sT s.F s.T s.S s.D m t = { s with l := [(m, t)] } := by cases s; simp only at hK hL; subst hK; subst hL; rfl
  rw [this]
  exact hp
theorem clear1 (s : PS) (F T S D : Int) (p : Nat) (w : World) (h : PortAt w p s) (hs : s.F = F ∧ s.T = T ∧ s.S = S ∧ s.D = D ∧ s.K = 0 ∧ s.lost = 0) :
    Calls Try.prog 13 #[ptr p] w fun e w' => e = .returned (.tuple #[]) ∧ PortAt w' p (sF F T S D) ∧ Fr [p] w w' := by
  obtain ⟨rfl, rfl, rfl, rfl, hK, hL⟩ := hs
  refine (clear_any p s w h).mono ?_
  rintro e w' ⟨he, hp, hf⟩
  refine ⟨he, ?_, hf⟩
  have : sF s.F s.T s.S s.D = { s with l := [], lost := 0 } := by cases s; simp only at hK; subst hK; rfl
  rw [this]
  exact hp

/-- What holds at the head of a round. -/
structure SI (w : World) (F T S D : Int) (p c : Nat) (B : Bool) (m : ByteArray) (t : Int) (wr : World) : Prop where
  hp : PortAt wr p (if B then sT F T S D m t else sF F T S D)
  t0 : 0 ≤ t
  t1 : t ≤ 1099511627776
  blk : Blk wr c 23 #[.int .i64 0, .int .i64 F, .int .i64 T, .int .i64 S, .int .i64 D]
  fr : Fr [] w wr
  hc : w.heap.size ≤ c
  hpw : w.heap.size ≤ p
section
variable {w wr w2 : World} {F T S D : Int} {p c : Nat} {B : Bool} {m : ByteArray} {t : Int}
theorem SI.alloc (h : SI w F T S D p c B m t wr) (o : Obj) : SI w F T S D p c B m t (wr.alloc o) :=
  ⟨h.hp.alloc' o, h.t0, h.t1, h.blk.alloc o, h.fr.alloc o, h.hc, h.hpw⟩
theorem SI.turn (h : SI w F T S D p c B m t wr) (hf : Fr [p] wr w2) {B' : Bool} {m' : ByteArray} {t' : Int} (hp : PortAt w2 p (if B' then sT F T S D m' t' else sF F T S D)) (h0 : 0 ≤ t') (h1 : t' ≤ 1099511627776) : SI w F T S D p c B' m' t' w2 := by
  obtain ⟨v, hb, -⟩ := h.hp
  exact ⟨hp, h0, h1, h.blk.fr hf (by simp; exact h.blk.ne_ hb (by decide)), h.fr.step hf (fun i hi => by simp at hi; subst hi; exact .inr h.hpw), h.hc, h.hpw⟩
end

set_option maxHeartbeats 1000000 in
theorem samples_no (K F T S D : Int) (sv : Value) (w : World) (hok : okC 0 F T S D = false) :
    Calls Try.prog 5 #[cfg K F T S D, sv] w fun e w' => e = .returned (.bool true) ∧ Fr [] w w' := by
  have hcfg : ∀ w, Calls Try.prog 7 #[.agg #[.int .i64 0, .int .i64 F, .int .i64 T, .int .i64 S, .int .i64 D]] w fun e w' => e = .returned (.tuple #[.pointer none, .int .i64 140]) ∧ Fr [] w w' := fun w => new_no 0 F T S D w hok
  have hrc : ∀ w, Calls Try.prog 8 #[.agg #[.int .i64 0, .int .i64 F, .int .i64 T, .int .i64 S, .int .i64 D]] w fun e w' => e = .returned (.int .i64 140) ∧ Fr [] w w' := fun w => rcheck_no 0 F T S D w hok
  have Hcfg := Lib.hid hcfg; clear hcfg
  have Hrc := Lib.hid hrc; clear hrc hok
  unfold cfg
  go_enter Try.func5, Try.ntmps5
  have hc0 := fun (w1 : World) (hf : Fr [] (w.alloc (.cells #[.int .i64 0, .int .i64 F, .int .i64 T, .int .i64 S, .int .i64 D] 23)) w1) (i : Nat) => hf.cell (p := ⟨w.heap.size, i, none⟩) (by simp) (by simp)
  have Hc0 := Lib.hid hc0; clear hc0
  go_wp2_with (first
    | (go_at_call 7; go_must ((with_reducible refine (Hcfg.out _).mono ?_); rintro e w1 ⟨rfl, hf1⟩; have hcc := Hc0.out _ hf1))
    | (go_at_call 8; go_must ((with_reducible refine (Hrc.out _).mono ?_); rintro e w2 ⟨rfl, hf2⟩))
    | (go_at_call 9; go_must ((with_reducible refine (fixed_any _).mono ?_); rintro e w3 ⟨rfl, hf3⟩)))
  go_ret
  exact ⟨rfl, (((Fr.refl _ _).alloc _).trans hf1).trans (hf2.trans hf3)⟩

set_option maxRecDepth 100000 in
set_option maxHeartbeats 4000000 in
theorem samples_ok (K F T S D : Int) (A : Option Addr) (n cap : Nat) (ops : Nat → OpD) (w : World) (hok : okC 0 F T S D = true) (hs : OpsIn w (.slice A n cap) n ops) (hnN : n ≤ 4398046511104) :
    Calls Try.prog 5 #[cfg K F T S D, .slice A n cap] w fun e w' => e = .returned (.bool true) ∧ Fr [] w w' := by
  have hcfg : ∀ w, Calls Try.prog 7 #[.agg #[.int .i64 0, .int .i64 F, .int .i64 T, .int .i64 S, .int .i64 D]] w (NewOk w (ps0 0 F T S D)) := fun w => new_ok 0 F T S D w hok
  clear hok
  have Hcfg := Lib.hid hcfg; clear hcfg
  have Hs := Lib.hid hs; clear hs
  unfold cfg
  go_enter Try.func5, Try.ntmps5
  have hc0 := fun (w1 : World) (hf : Fr [] (w.alloc (.cells #[.int .i64 0, .int .i64 F, .int .i64 T, .int .i64 S, .int .i64 D] 23)) w1) => (Blk.new w 23 #[.int .i64 0, .int .i64 F, .int .i64 T, .int .i64 S, .int .i64 D]).fr hf (by simp)
  have Hc0 := Lib.hid hc0; clear hc0
  go_wp2_with (first
    | (go_at_call 7; go_must ((with_reducible refine (Hcfg.out _).mono ?_); rintro e w1 ⟨p, rfl, hpe, hp1, hf1⟩))
    | fail)
  simp only [World.size_alloc] at hpe
  have hI : SI w F T S D p w.heap.size false ByteArray.empty 0 w1 := ⟨hp1, by omega, by omega, Hc0.out _ hf1, ((Fr.refl _ _).alloc _).trans hf1, Nat.le_refl _, by omega⟩
  have HI0 := Lib.hid hI; clear hI hp1 hf1 hpe Hc0
  go_loopg [7, 8, 9, 10] n (fun g lastv atv isv i wr => ∃ (k : Nat) (m : ByteArray) (t : Int) (B : Bool), k + g = n ∧ i = .int .i64 k ∧ lastv = .string m ∧ atv = .int .i64 t ∧ isv = .bool B ∧ SI w F T S D p w.heap.size B m t wr)
  case atStart => exact ⟨0, _, _, _, by omega, rfl, rfl, rfl, rfl, HI0.out⟩
  case round =>
    obtain ⟨k, m, t, B, hk, rfl, rfl, rfl, rfl, hInv⟩ := hrel
    have HI := Lib.hid hInv
    obtain ⟨hp, ht0, ht1, hblk, hfr, hc, hpw⟩ := hInv
    have Hk := Lib.hid hk
    by_cases hlt : k < n
    · obtain ⟨b, off, hA, hbl, c0, c1, c2, c3⟩ := (Hs.out.fr hfr).at_ hlt
      subst hA
      have Hsz := Lib.hid (ops k).hS
      have hblt := hblk.lt
      have hbne : b ≠ p := by
        obtain ⟨b', off', hA', hbl', _⟩ := Hs.out.at_ hlt
        injection hA' with hA'; injection hA' with hb' _
        omega
      generalize ops k = q at *
      have cb3 := hblk.cell 3
      simp at cb3
      have Hwp : Hid (w.heap.size ∉ [p]) := Lib.hid (by obtain ⟨v, hbp, -⟩ := hp; simp; exact hblk.ne_ hbp (by decide))
      have Hrp : Hid (wr.heap.size ∉ [p]) := Lib.hid (by obtain ⟨v, hbp, -⟩ := hp; have := hbp.lt; simp; omega)
      have hszm := Hsz.out
      unfold maxLen at hszm
      clear hk
      have hp' := hp.alloc' (.cells #[.int .i64 q.On, .int .i64 q.Kind, .int .i64 q.Tick, .string q.S] 33)
      have hsame : (if B then sT F T S D m t else sF F T S D).F = F ∧ (if B then sT F T S D m t else sF F T S D).T = T ∧ (if B then sT F T S D m t else sF F T S D).S = S ∧ (if B then sT F T S D m t else sF F T S D).D = D ∧ (if B then sT F T S D m t else sF F T S D).K = 0 ∧ (if B then sT F T S D m t else sF F T S D).lost = 0 := by
        cases B <;> simp [sT, sF]
      have Hsame := Lib.hid hsame; clear hsame
      have hcase : (q.Kind = 0 ∧ (0 ≤ q.Tick ∧ q.Tick ≤ 1099511627776) ∧ q.S.size ≤ S) ∨ q.Kind = 2 ∨ (q.Kind = 1 ∧ (0 ≤ q.Tick ∧ q.Tick ≤ 1099511627776)) ∨ (q.Kind = 0 ∧ (0 ≤ q.Tick ∧ q.Tick ≤ 1099511627776) ∧ S < q.S.size) ∨
          ((q.Kind = 0 ∨ q.Kind = 1) ∧ (q.Tick < 0 ∨ 1099511627776 < q.Tick)) ∨ (q.Kind ≠ 0 ∧ q.Kind ≠ 1 ∧ q.Kind ≠ 2) := by omega
      rcases hcase with ⟨hkd, ⟨hf0, hf1⟩, hsz⟩ | hkd | ⟨hkd, hf0, hf1⟩ | ⟨hkd, ⟨hf0, hf1⟩, hsz⟩ | ⟨hkd, hft⟩ | ⟨hk0, hk1, hk2⟩
      · have t1 : (q.Kind == 0) = true := by simp [hkd]
        clear hkd
        go_wp2_with (first
          | (go_at_call 12; go_must ((with_reducible refine (keep1 _ F T S D p _ q.S q.Tick hp' Hsame.out hf0 hf1 hsz Hsz.out).mono ?_); rintro e w2 ⟨rfl, hp2, hf2⟩; have co := fun i => hf2.cell (p := ⟨wr.heap.size, i, none⟩) (by simp) Hrp.out))
          | (go_at_call 11; go_must ((with_reducible refine (len1 F T S D _ _ p _ hp2).mono ?_); rintro e w3 ⟨rfl, rfl⟩))
          | fail)
        go_roundg (n - (k + 1))
        case measure => have := Hk.out; omega
        case rel => exact ⟨k + 1, q.S, q.Tick, true, by have := Hk.out; omega, by go_num, rfl, rfl, rfl, (HI.out.alloc _).turn hf2 hp2 hf0 hf1⟩
      · have t1 : (q.Kind == 2) = true := by simp [hkd]
        have t2 : (q.Kind == 0) = false := by rw [beq_eq_false_iff_ne]; omega
        have t3 : (q.Kind == 1) = false := by rw [beq_eq_false_iff_ne]; omega
        clear hkd
        go_wp2_with (first
          | (go_at_call 13; go_must ((with_reducible refine (clear1 _ F T S D p _ hp' Hsame.out).mono ?_); rintro e w2 ⟨rfl, hp2, hf2⟩; have co := fun i => hf2.cell (p := ⟨wr.heap.size, i, none⟩) (by simp) Hrp.out))
          | (go_at_call 11; go_must ((with_reducible refine (len0 F T S D p _ hp2).mono ?_); rintro e w3 ⟨rfl, rfl⟩))
          | fail)
        all_goals
          go_roundg (n - (k + 1))
          case measure => have := Hk.out; omega
          case rel => exact ⟨k + 1, m, t, false, by have := Hk.out; omega, by go_num, rfl, rfl, rfl, (HI.out.alloc _).turn (B' := false) hf2 hp2 ht0 ht1⟩
      · have t1 : (q.Kind == 1) = true := by simp [hkd]
        have t2 : (q.Kind == 0) = false := by rw [beq_eq_false_iff_ne]; omega
        clear hkd
        cases B with
        | true =>
          go_wp2_with (first
            | (go_at_call 10; go_must ((with_reducible refine (recv_look p (sT F T S D m t) _ m t [] q.Tick hp' rfl hf0 hf1 ht0 ht1 rfl).mono ?_); rintro e w2 ⟨rfl, hf2⟩; have hp2 : PortAt w2 p (sT F T S D m t) := hp'.fr hf2 (by simp) (by simp); have co := fun i => hf2.cell (p := ⟨wr.heap.size, i, none⟩) (by simp) (by simp)))
            | (go_at_call 11; go_must ((with_reducible refine (len1 F T S D m t p _ hp2).mono ?_); rintro e w3 ⟨rfl, rfl⟩))
            | fail)
          all_goals
            go_roundg (n - (k + 1))
            case measure => have := Hk.out; omega
            case rel => exact ⟨k + 1, m, t, true, by have := Hk.out; omega, by go_num, rfl, rfl, rfl, (HI.out.alloc _).turn (B' := true) (hf2.mono (by simp)) hp2 ht0 ht1⟩
        | false =>
          go_wp2_with (first
            | (go_at_call 10; go_must ((with_reducible refine (recv_empty p (sF F T S D) _ q.Tick hp' hf0 hf1 rfl).mono ?_); rintro e w2 ⟨rfl, rfl⟩))
            | (go_at_call 11; go_must ((with_reducible refine (len0 F T S D p _ hp').mono ?_); rintro e w3 ⟨rfl, rfl⟩))
            | fail)
          all_goals
            go_roundg (n - (k + 1))
            case measure => have := Hk.out; omega
            case rel => exact ⟨k + 1, m, t, false, by have := Hk.out; omega, by go_num, rfl, rfl, rfl, HI.out.alloc _⟩
      · have t1 : (q.Kind == 0) = true := by simp [hkd]
        have hs3 : decide ((q.S.size : Int) ≤ S) = false := by simp; omega
        have hs2 : ¬ (q.S.size : Int) ≤ S := by omega
        clear hkd
        have hl := fun w h => send_long p (if B then sT F T S D m t else sF F T S D) w q.S q.Tick h hf0 hf1 (by have := Hsame.out; omega) Hsz.out
        have Hl := Lib.hid hl; clear hl
        cases B
        all_goals
          go_wp2_with (first
            | (go_at_call 12; go_must ((with_reducible refine (Hl.out _ hp').mono ?_); rintro e w2 ⟨rfl, rfl⟩))
            | (go_at_call 11; (with_reducible refine (len0 F T S D p _ hp').mono ?_); rintro e w3 ⟨rfl, rfl⟩)
            | (go_at_call 11; (with_reducible refine (len1 F T S D m t p _ hp').mono ?_); rintro e w3 ⟨rfl, rfl⟩)
            | fail)
        all_goals
          go_roundg (n - (k + 1))
          case measure => have := Hk.out; omega
          case rel => exact ⟨k + 1, m, t, _, by have := Hk.out; omega, by go_num, rfl, rfl, rfl, HI.out.alloc _⟩
      · have hnf : (0 ≤ q.Tick ∧ q.Tick ≤ 1099511627776) = False := by simp; omega
        have Hnf := Lib.hid hnf; clear hnf
        rcases hkd with hkd | hkd
        all_goals rcases hft with hft | hft
        all_goals cases B
        all_goals
          first
            | have t1 : (q.Kind == 0) = true := by simp [hkd]
            | (have t1 : (q.Kind == 1) = true := by simp [hkd]
               have t2 : (q.Kind == 0) = false := by rw [beq_eq_false_iff_ne]; omega)
          clear hkd
          have Hft : Hid (q.Tick < 0 ∨ 1099511627776 < q.Tick) := Lib.hid (by omega)
          go_wp2_with (first
            | (go_at_call 12; go_must ((with_reducible refine (send_tick p _ q.S q.Tick Hft.out).mono ?_); rintro e w2 ⟨rfl, rfl⟩))
            | (go_at_call 10; go_must ((with_reducible refine (recv_tick p _ q.Tick Hft.out).mono ?_); rintro e w2 ⟨rfl, rfl⟩))
            | (go_at_call 11; (with_reducible refine (len0 F T S D p _ hp').mono ?_); rintro e w3 ⟨rfl, rfl⟩)
            | (go_at_call 11; (with_reducible refine (len1 F T S D m t p _ hp').mono ?_); rintro e w3 ⟨rfl, rfl⟩)
            | fail)
        all_goals
          go_roundg (n - (k + 1))
          case measure => have := Hk.out; omega
          case rel => exact ⟨k + 1, m, t, _, by have := Hk.out; omega, by go_num, rfl, rfl, rfl, HI.out.alloc _⟩
      · have t0 : (q.Kind == 0) = false := by rw [beq_eq_false_iff_ne]; omega
        have t1 : (q.Kind == 1) = false := by rw [beq_eq_false_iff_ne]; omega
        have t2 : (q.Kind == 2) = false := by rw [beq_eq_false_iff_ne]; omega
        clear hk0 hk1 hk2
        cases B
        all_goals
          go_wp2_with (first
            | (go_at_call 11; (with_reducible refine (len0 F T S D p _ hp').mono ?_); rintro e w3 ⟨rfl, rfl⟩)
            | (go_at_call 11; (with_reducible refine (len1 F T S D m t p _ hp').mono ?_); rintro e w3 ⟨rfl, rfl⟩)
            | fail)
        all_goals
          go_roundg (n - (k + 1))
          case measure => have := Hk.out; omega
          case rel => exact ⟨k + 1, m, t, _, by have := Hk.out; omega, by go_num, rfl, rfl, rfl, HI.out.alloc _⟩
    · clear hk
      go_wp2_with (go_at_call 9; go_must ((with_reducible refine (fixed_any _).mono ?_); rintro e w3 ⟨rfl, hf3⟩))
      go_ret
      exact ⟨rfl, hfr.trans hf3⟩

theorem samples_walk (K F T S D : Int) (A : Option Addr) (n cap : Nat) (ops : Nat → OpD) (w : World) (hs : OpsIn w (.slice A n cap) n ops) (hn : n ≤ 4398046511104) :
    Calls Try.prog 5 #[cfg K F T S D, .slice A n cap] w fun e w' => e = .returned (.bool true) ∧ Below w.heap.size w w' := by
  cases hok : okC 0 F T S D with
  | false => exact (samples_no K F T S D _ w hok).mono fun e w' ⟨he, hf⟩ => ⟨he, hf.below (Nat.le_refl _) (by simp)⟩
  | true => exact (samples_ok K F T S D A n cap ops w hok hs hn).mono fun e w' ⟨he, hf⟩ => ⟨he, hf.below (Nat.le_refl _) (by simp)⟩
end Go.Proofs.Ytblidpafeiiniaa

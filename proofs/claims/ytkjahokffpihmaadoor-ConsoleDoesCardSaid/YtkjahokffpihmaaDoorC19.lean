/- A script of calls; a console behind it. -/
import Derived.Test.YtkjahokffpihmaaDoorC18
namespace Go.Proofs.YtkjahokffpihmaaDoor
open Go.RowKit
set_option linter.unusedVariables false
set_option linter.unusedSimpArgs false
set_option maxRecDepth 100000
/-- A call of a script. -/
structure OpC where
  on : Int
  kind : Int
  a : Int
  s : ByteArray
  won : -9223372036854775808 ≤ on ∧ on ≤ 9223372036854775807
  hs : s.size ≤ maxLen
def opC0 : OpC := ⟨0, 0, 0, empty, by decide, by simp [empty, maxLen, ByteArray.size]⟩
structure OpC.at (w : World) (b o : Nat) (x : OpC) : Prop where
  c0 : w.cell? ⟨b, o, none⟩ = some (.int .i64 x.on)
  c1 : w.cell? ⟨b, o + 1, none⟩ = some (.int .i64 x.kind)
  c2 : w.cell? ⟨b, o + 2, none⟩ = some (.int .i64 x.a)
  c3 : w.cell? ⟨b, o + 3, none⟩ = some (.string x.s)
/-- A script in memory. -/
def OpsC (w : World) (A : Option Addr) (n : Nat) (ops : Nat → OpC) : Prop := n ≤ maxLen ∧ ∀ i, i < n → ∃ b off, A = some ⟨b, off, .none⟩ ∧ OpC.at w b (off + i * 4) (ops i)
theorem OpC.at.fr {w w' : World} {b o : Nat} {x : OpC} (h : OpC.at w b o x) (hf : Fr [] w w') : OpC.at w' b o x :=
  ⟨hf.cell_some h.c0 (by simp), hf.cell_some h.c1 (by simp), hf.cell_some h.c2 (by simp), hf.cell_some h.c3 (by simp)⟩
theorem OpsC.fr {w w' : World} {A : Option Addr} {n : Nat} {ops : Nat → OpC} (h : OpsC w A n ops) (hf : Fr [] w w') : OpsC w' A n ops :=
  ⟨h.1, fun i hi => by obtain ⟨b, off, hA, ha⟩ := h.2 i hi; exact ⟨b, off, hA, ha.fr hf⟩⟩
/-- What a call of 'made' does. -/
def stepC (x : Con) (o : OpC) : Con := if o.kind = 0 then keysX x o.s.data.toList else if o.kind = 1 then write x o.a o.s.data.toList else if o.kind = 2 then takeX x o.a else x
def runC (x : Con) (ops : Nat → OpC) : Nat → Con
  | 0 => x
  | k + 1 => stepC (runC x ops k) (ops k)
def MadeP (w : World) (lv : Int) (lg : ByteArray) (n : Nat) (ops : Nat → OpC) (e : Ending) (w' : World) : Prop :=
  (okNew lv lg = false ∧ e = .returned (.pointer none) ∧ Fr [] w w') ∨ (okNew lv lg = true ∧ ∃ c k, e = .returned (ptr c) ∧ Cn w w' c k (runC (newCon lv.toNat lg) ops n))
set_option maxHeartbeats 2000000 in
theorem made_no (w : World) (lv : Int) (lg : ByteArray) (A : Option Addr) (n cap : Nat) (h : okNew lv lg = false) : Calls Tryd.prog 9 #[.int .i64 lv, .string lg, .slice A n cap] w fun e w' => e = .returned (.pointer none) ∧ Fr [] w w' := by
  have HN : Hid (Calls Tryd.prog 21 #[.int .i64 lv, .string lg] w fun e w' => e = .returned (.tuple #[.pointer none, .int .i64 220]) ∧ Fr [] w w') := Lib.hid ((cn_new w w (Fr.refl _ _) lv lg).mono fun e w' hh => by
    rcases hh with ⟨-, he, hf⟩ | ⟨h1, -⟩
    · exact ⟨he, hf⟩
    · rw [h] at h1; cases h1)
  clear h
  go_enter Tryd.func9, Tryd.ntmps9
  go_wp2_with (go_at_call 21; refine HN.out.mono ?_; rintro e w1 ⟨rfl, hf⟩; have HF := Lib.hid hf; clear hf)
  go_ret
  exact ⟨rfl, HF.out⟩
set_option maxHeartbeats 4000000 in
theorem made_yes (w : World) (lv : Int) (lg : ByteArray) (A : Option Addr) (n cap : Nat) (ops : Nat → OpC) (ho : OpsC w A n ops) (h : okNew lv lg = true) : Calls Tryd.prog 9 #[.int .i64 lv, .string lg, .slice A n cap] w fun e w' => ∃ c k, e = .returned (ptr c) ∧ Cn w w' c k (runC (newCon lv.toNat lg) ops n) := by
  have HN : Hid (Calls Tryd.prog 21 #[.int .i64 lv, .string lg] w fun e w' => ∃ c k, e = .returned (.tuple #[ptr c, .int .i64 0]) ∧ Cn w w' c k (newCon lv.toNat lg)) := Lib.hid ((cn_new w w (Fr.refl _ _) lv lg).mono fun e w' hh => by
    rcases hh with ⟨h1, -⟩ | ⟨-, hh⟩
    · rw [h] at h1; cases h1
    · exact hh)
  have HO := Lib.hid ho
  have hn : n ≤ 9223372036854775807 := by simpa [maxLen] using ho.1
  clear h ho
  obtain ⟨y, hy⟩ : ∃ y, newCon lv.toNat lg = y := ⟨_, rfl⟩
  rw [hy] at HN ⊢
  clear hy
  go_enter Tryd.func9, Tryd.ntmps9
  go_wp2_with (go_at_call 21; refine HN.out.mono ?_; rintro e w1 ⟨c, q, rfl, h1⟩)
  go_loopg [9] n (fun gg i wr => ∃ k : Nat, k + gg = n ∧ i = .int .i64 k ∧ Cn w wr c q (runC y ops k))
  case atStart => exact ⟨0, by omega, rfl, h1⟩
  case round =>
    clear h1
    obtain ⟨k, hk, rfl, hc⟩ := hrel
    have Hk := Lib.hid hk
    by_cases hlt : k < n
    · have hlt' : (k : Int) < (n : Int) := by omega
      have hk0 : (0 : Int) ≤ (k : Int) := by omega
      obtain ⟨b, off, rfl, ha⟩ := HO.out.2 k hlt
      have HAT : Hid (∀ W, Fr [] w W → W.cell? ⟨b, off + k * 4 + 2, none⟩ = some (.int .i64 (ops k).a) ∧ W.cell? ⟨b, off + k * 4 + 3, none⟩ = some (.string (ops k).s)) := Lib.hid (fun W hf => ⟨(ha.fr hf).c2, (ha.fr hf).c3⟩)
      obtain ⟨-, a1, a2, a3⟩ := ha.fr hc.f
      clear ha
      have hso := (ops k).hs
      have HC := Lib.hid hc
      have HK := Lib.hid (cn_keys hc (ops k).s hso)
      have HW := Lib.hid (fun W (h : Cn w W c q (runC y ops k)) => h.write (ops k).a (ops k).s hso)
      have HT := Lib.hid (hc.take (ops k).a)
      have HS : Hid (runC y ops (k + 1) = stepC (runC y ops k) (ops k)) := Lib.hid rfl
      have HD : Hid (Cn w wr.drew c q (runC y ops k)) := Lib.hid (hc.to (Fr.refl [] wr).drew)
      clear hk hc hso
      by_cases h0 : (ops k).kind = 0
      · have E : Hid (runC y ops (k + 1) = keysX (runC y ops k) (ops k).s.data.toList) := Lib.hid (by rw [HS.out]; unfold stepC; rw [if_pos h0])
        rw [h0] at a1
        clear h0
        generalize (ops k).s = s at *
        generalize (ops k).a = a at *
        go_wp2_with (go_at_call 23; refine HK.out.mono ?_; rintro e w2 hP; obtain ⟨rfl, hQ, -⟩ := hP; have HQ := Lib.hid hQ; clear hQ)
        go_roundg (n - (k + 1))
        case measure => have := Hk.out; omega
        case rel => exact ⟨k + 1, by have := Hk.out; omega, by go_num, by rw [E.out]; exact HQ.out⟩
      · by_cases h1 : (ops k).kind = 1
        · have E : Hid (runC y ops (k + 1) = write (runC y ops k) (ops k).a (ops k).s.data.toList) := Lib.hid (by rw [HS.out]; unfold stepC; rw [if_neg h0, if_pos h1])
          rw [h1] at a1
          clear h0 h1
          generalize (ops k).s = s at *
          generalize (ops k).a = a at *
          go_wp2_with fail
          go_region_held3 (fun W => W.cell? ⟨b, off + k * 4 + 2, none⟩ = some (.int .i64 a) ∧ W.cell? ⟨b, off + k * 4 + 3, none⟩ = some (.string s)) (first | exact ⟨a2, a3⟩ | exact kk) (first
            | (go_at_call 19; refine (HW.out _ HD.out).mono ?_; rintro e w2 hP; obtain ⟨rfl, hQ, hf2⟩ := hP; have kk : w2.cell? ⟨b, off + k * 4 + 2, none⟩ = some (.int .i64 a) ∧ w2.cell? ⟨b, off + k * 4 + 3, none⟩ = some (.string s) := HAT.out _ hQ.f))
          have HQ := Lib.hid hQ
          clear hQ kk
          go_wp2_with fail
          go_roundg (n - (k + 1))
          case measure => have := Hk.out; omega
          case rel => exact ⟨k + 1, by have := Hk.out; omega, by go_num, by rw [E.out]; exact HQ.out⟩
        · have e0 : ((ops k).kind == 0) = false := beq_eq_false_iff_ne.2 h0
          have e1 : ((ops k).kind == 1) = false := beq_eq_false_iff_ne.2 h1
          by_cases h2 : (ops k).kind = 2
          · have E : Hid (runC y ops (k + 1) = takeX (runC y ops k) (ops k).a) := Lib.hid (by rw [HS.out]; unfold stepC; rw [if_neg h0, if_neg h1, if_pos h2])
            rw [h2] at a1
            clear h0 h1 h2 e0 e1
            generalize (ops k).s = s at *
            generalize (ops k).a = a at *
            go_wp2_with (go_at_call 12; refine HT.out.mono ?_; rintro e w2 hP; obtain ⟨rfl, hQ, -⟩ := hP; have HQ := Lib.hid hQ; clear hQ)
            go_roundg (n - (k + 1))
            case measure => have := Hk.out; omega
            case rel => exact ⟨k + 1, by have := Hk.out; omega, by go_num, by rw [E.out]; exact HQ.out⟩
          · have e2 : ((ops k).kind == 2) = false := beq_eq_false_iff_ne.2 h2
            have E : Hid (runC y ops (k + 1) = runC y ops k) := Lib.hid (by rw [HS.out]; unfold stepC; rw [if_neg h0, if_neg h1, if_neg h2])
            clear h0 h1 h2
            generalize (ops k).kind = K at *
            go_wp2_with fail
            go_roundg (n - (k + 1))
            case measure => have := Hk.out; omega
            case rel => exact ⟨k + 1, by have := Hk.out; omega, by go_num, by rw [E.out]; exact HC.out⟩
    · obtain rfl : k = n := by omega
      have HC := Lib.hid hc
      clear hc hk
      go_wp2_with fail
      go_ret
      exact ⟨c, q, rfl, HC.out⟩
end Go.Proofs.YtkjahokffpihmaaDoor

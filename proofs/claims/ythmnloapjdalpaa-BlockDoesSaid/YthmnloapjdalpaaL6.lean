/- Scripts of the disk's law; a disk behind writes and flushes. -/
import Derived.Test.YthmnloapjdalpaaL5
namespace Go.Proofs.Ythmnloapjdalpaa
open Go.RowKit
set_option linter.unusedVariables false
set_option linter.unusedSimpArgs false
structure OpD.Fine (x : OpD) : Prop where
  s : x.s.size ≤ maxLen
  on : (Lit.int .i64 x.on).wf = true
  a : (Lit.int .i64 x.a).wf = true
  b : (Lit.int .i64 x.b).wf = true
def OpD.none : OpD := ⟨0, 0, 0, 0, 0, ⟨#[]⟩, []⟩
theorem OpD.none_fine : OpD.none.Fine := ⟨Nat.zero_le _, by decide, by decide, by decide⟩
/-- A call's cells. -/
structure OpD.at (w : World) (b o : Nat) (x : OpD) (cv : Value) : Prop where
  c0 : w.cell? ⟨b, o, .none⟩ = some (.int .i64 x.on)
  c1 : w.cell? ⟨b, o + 1, .none⟩ = some (.int .i64 x.kind)
  c2 : w.cell? ⟨b, o + 2, .none⟩ = some (.int .i64 x.a)
  c3 : w.cell? ⟨b, o + 3, .none⟩ = some (.int .i64 x.b)
  c4 : w.cell? ⟨b, o + 4, .none⟩ = some (.int .u8 (x.c.toNat : Int))
  c5 : w.cell? ⟨b, o + 5, .none⟩ = some (.string x.s)
  c6 : w.cell? ⟨b, o + 6, .none⟩ = some cv
  z : Zw w cv x.ch
theorem OpD.at.seven {w : World} {b o : Nat} {x : OpD} {cv : Value} (h : OpD.at w b o x cv) : w.cell? ⟨b, o, .none⟩ = some (.int .i64 x.on) ∧ w.cell? ⟨b, o + 1, .none⟩ = some (.int .i64 x.kind) ∧ w.cell? ⟨b, o + 2, .none⟩ = some (.int .i64 x.a) ∧ w.cell? ⟨b, o + 3, .none⟩ = some (.int .i64 x.b) ∧ w.cell? ⟨b, o + 4, .none⟩ = some (.int .u8 (x.c.toNat : Int)) ∧ w.cell? ⟨b, o + 5, .none⟩ = some (.string x.s) ∧ w.cell? ⟨b, o + 6, .none⟩ = some cv :=
  ⟨h.c0, h.c1, h.c2, h.c3, h.c4, h.c5, h.c6⟩
/-- A slice of calls, in memory that came in. -/
def OpsD (w : World) (v : Value) (n : Nat) (ops : Nat → OpD) : Prop :=
  n ≤ maxLen ∧ ∃ A cap, v = .slice A n cap ∧ ∀ i, i < n → (ops i).Fine ∧ ∃ b off cv, A = some ⟨b, off, .none⟩ ∧ OpD.at w b (off + i * 7) (ops i) cv
theorem OpsD.at_ {w : World} {A : Option Addr} {n cap : Nat} {ops : Nat → OpD} (h : OpsD w (.slice A n cap) n ops) {i : Nat} (hi : i < n) : (ops i).Fine ∧ ∃ b off cv, A = some ⟨b, off, .none⟩ ∧ OpD.at w b (off + i * 7) (ops i) cv := by
  obtain ⟨_, A', cap', h1, h2⟩ := h
  injection h1 with hA _ _
  rw [hA]
  exact h2 i hi
theorem OpD.at.fr {w w' : World} {b o : Nat} {x : OpD} {cv : Value} (h : OpD.at w b o x cv) (hf : Fr [] w w') : OpD.at w' b o x cv :=
  ⟨hf.cell_some h.c0 (by simp), hf.cell_some h.c1 (by simp), hf.cell_some h.c2 (by simp), hf.cell_some h.c3 (by simp), hf.cell_some h.c4 (by simp), hf.cell_some h.c5 (by simp), hf.cell_some h.c6 (by simp), h.z.fr hf (NoZ.nil _)⟩
theorem OpsD.fr {w w' : World} {v : Value} {n : Nat} {ops : Nat → OpD} (h : OpsD w v n ops) (hf : Fr [] w w') : OpsD w' v n ops := by
  obtain ⟨h0, A, cap, h1, h2⟩ := h
  refine ⟨h0, A, cap, h1, fun i hi => ?_⟩
  obtain ⟨hF, b, off, cv, hA, hc⟩ := h2 i hi
  exact ⟨hF, b, off, cv, hA, hc.fr hf⟩
theorem wf_le {x : Int} (h : (Lit.int .i64 x).wf = true) : -9223372036854775808 ≤ x ∧ x ≤ 9223372036854775807 := by
  simp [Lit.wf, IntKind.min, IntKind.max, IntKind.signed, IntKind.bits] at h
  omega
def MadeP (w : World) (t : ByteArray) (e : Ending) (w' : World) : Prop :=
  (newE t ≠ 0 ∧ e = .returned (.pointer none) ∧ Fr [] w w') ∨ (newE t = 0 ∧ ∃ p d, e = .returned (ptr p) ∧ Dd w w' p d ∧ d.Calm ∧ d.n = t.size / 128)
theorem new_any (t : ByteArray) (w : World) (hs : t.size ≤ maxLen) (h : newE t ≠ 0) : Calls Try.prog 22 #[.string t] w fun e w' => e = .returned (.tuple #[.pointer none, .int .i64 70]) ∧ w = w' := New_bad t w hs h
set_option maxRecDepth 100000 in
set_option maxHeartbeats 2000000 in
theorem made_any (t : ByteArray) (w : World) (A : Option Addr) (n cap : Nat) (ops : Nat → OpD) (ht : t.size ≤ maxLen) (ho : OpsD w (.slice A n cap) n ops) :
    Calls Try.prog 45 #[.string t, .slice A n cap] w (MadeP w t) := by
  by_cases h0 : newE t = 0
  · have hN := Lib.hid (Dd.new t w h0)
    have E0 := Lib.hid h0
    have hd0 := Lib.hid (show (newD t).n = t.size / 128 from rfl)
    have hcalm := Lib.hid (newD_calm t)
    have HO := Lib.hid ho
    have hn := ho.1
    simp only [maxLen] at hn
    generalize newD t = D0 at *
    clear ht ho h0
    go_enter Try.func45, Try.ntmps45
    go_wp2_with (go_at_call 22; refine hN.out.mono ?_; rintro e w1 ⟨p, rfl, hd⟩)
    have HD := Lib.hid hd
    clear hd
    go_loopg [7] n (fun gg v wr => ∃ (k : Nat) (d : Dk), k + gg = n ∧ v = .int .i64 (k : Int) ∧ Dd w wr p d ∧ d.Calm ∧ d.n = t.size / 128)
    case atStart => exact ⟨0, D0, by omega, rfl, HD.out, hcalm.out, hd0.out⟩
    case round =>
      obtain ⟨k, d, hk, rfl, hd, hc, hdn⟩ := hrel
      have Hk := Lib.hid hk
      have Hd := Lib.hid hd
      have Hc := Lib.hid hc
      have Hdn := Lib.hid hdn
      clear hk hd hc hdn HD
      by_cases hlt : k < n
      · have hlt' : (k : Int) < (n : Int) := by omega
        have hk0 : (0 : Int) ≤ (k : Int) := by omega
        have hw : IntKind.i64.wrap ((k : Int) + 1) = (k : Int) + 1 := IntWalk.i64_in _ (by omega)
        obtain ⟨hF, b, off, cv, rfl, hat⟩ := HO.out.at_ hlt
        generalize hx : ops k = x at *
        have HC := Lib.hid (fun W (hf : Fr [] w W) => (hat.fr hf).seven)
        obtain ⟨c0, c1, c2, c3, c4, c5, c6⟩ := HC.out _ Hd.out.fr
        clear hat
        have hsec := Lib.hid (fun W => sector_any (.int .i64 x.on) (.int .i64 x.kind) (.int .i64 x.a) (.int .i64 x.b) cv x.c x.s hF.s W)
        have hss := Lib.hid (sectorT_size x.s x.c hF.s)
        have Ha := Lib.hid (wf_le hF.a)
        have Hb := Lib.hid (wf_le hF.b)
        have k0 := HC.out _ Hd.out.fr
        by_cases hk1 : x.kind = 1
        · rw [hk1] at c1 hsec k0 HC
          have HW := Lib.hid (fun (W : World) (h : Dd w W p d) => h.write x.a (sectorT x.s x.c) hss.out)
          go_wp2_with fail
          go_region_held3 (fun W => W.cell? ⟨b, off + k * 7, none⟩ = some (.int .i64 x.on) ∧ W.cell? ⟨b, off + k * 7 + 1, none⟩ = some (.int .i64 1) ∧ W.cell? ⟨b, off + k * 7 + 2, none⟩ = some (.int .i64 x.a) ∧ W.cell? ⟨b, off + k * 7 + 3, none⟩ = some (.int .i64 x.b) ∧ W.cell? ⟨b, off + k * 7 + 4, none⟩ = some (.int .u8 (x.c.toNat : Int)) ∧ W.cell? ⟨b, off + k * 7 + 5, none⟩ = some (.string x.s) ∧ W.cell? ⟨b, off + k * 7 + 6, none⟩ = some cv)
            (first | exact k0 | exact k1 | exact k2) (first
            | (go_at_call 86; refine (hsec.out _).mono ?_; rintro e w2 ⟨rfl, hf2⟩; have k1 := HC.out _ (Hd.out.drew.to hf2).fr; have Hd2 := Lib.hid (Hd.out.drew.to hf2))
            | (go_at_call 30; refine (HW.out _ Hd2.out).mono ?_; rintro e w3 ⟨rfl, hd3⟩; have HD3 := Lib.hid hd3; have k2 := HC.out _ hd3.fr; clear hd3))
          go_wp2_with fail
          go_roundg (n - (k + 1))
          case measure => have := Hk.out; omega
          case rel => exact ⟨k + 1, _, by have := Hk.out; omega, by go_num, HD3.out, (Hc.out.write _ _).1, ((Hc.out.write _ _).2).trans Hdn.out⟩
        · by_cases hk2 : x.kind = 2
          · rw [hk2] at c1 k0 HC
            have HW := Lib.hid (fun (W : World) (h : Dd w W p d) => h.flush x.a x.b Ha.out.2 Hb.out.2)
            go_wp2_with fail
            go_region_held3 (fun W => W.cell? ⟨b, off + k * 7, none⟩ = some (.int .i64 x.on) ∧ W.cell? ⟨b, off + k * 7 + 1, none⟩ = some (.int .i64 2) ∧ W.cell? ⟨b, off + k * 7 + 2, none⟩ = some (.int .i64 x.a) ∧ W.cell? ⟨b, off + k * 7 + 3, none⟩ = some (.int .i64 x.b) ∧ W.cell? ⟨b, off + k * 7 + 4, none⟩ = some (.int .u8 (x.c.toNat : Int)) ∧ W.cell? ⟨b, off + k * 7 + 5, none⟩ = some (.string x.s) ∧ W.cell? ⟨b, off + k * 7 + 6, none⟩ = some cv)
              (first | exact k0 | exact k1 | exact k2) (first
              | (go_at_call 48; refine (HW.out _ Hd.out.drew).mono ?_; rintro e w3 ⟨rfl, hd3⟩; have HD3 := Lib.hid hd3; have k2 := HC.out _ hd3.fr; clear hd3))
            go_wp2_with fail
            go_roundg (n - (k + 1))
            case measure => have := Hk.out; omega
            case rel => exact ⟨k + 1, _, by have := Hk.out; omega, by go_num, HD3.out, (Hc.out.flush _ _).1, ((Hc.out.flush _ _).2).trans Hdn.out⟩
          · clear HC k0
            go_wp2_with fail
            go_roundg (n - (k + 1))
            case measure => have := Hk.out; omega
            case rel => exact ⟨k + 1, _, by have := Hk.out; omega, by go_num, Hd.out, Hc.out, Hdn.out⟩
      · go_wp2_with fail
        go_ret
        exact .inr ⟨E0.out, p, d, rfl, Hd.out, Hc.out, Hdn.out⟩
  · have hN := Lib.hid (new_any t w ht h0)
    have E0 := Lib.hid h0
    clear ho
    go_enter Try.func45, Try.ntmps45
    go_wp2_with (go_at_call 22; refine hN.out.mono ?_; rintro e w1 ⟨rfl, rfl⟩)
    go_ret
    exact .inl ⟨E0.out, rfl, Fr.refl _ _⟩
end Go.Proofs.Ythmnloapjdalpaa

/- ConsoleDoes: the walk. -/
import Derived.Test.YtkjahokffpihmaaDoorC35
import Derived.Test.YtkjahokffpihmaaDoorC25
import Derived.Deep.CutBlock
namespace Go.Proofs.YtkjahokffpihmaaDoor
open Go.RowKit
set_option linter.unusedVariables false
set_option linter.unusedSimpArgs false
set_option maxRecDepth 100000
theorem updA_id {α : Type} (f : Nat → α) (i : Nat) : updA f i (f i) = f := by
  funext j
  unfold updA
  split
  · next h => rw [h]
  · rfl
theorem updA_twice {α : Type} (f : Nat → α) (i : Nat) (u v : α) : updA (updA f i u) i v = updA f i v := by
  funext j
  unfold updA
  split <;> rfl
/-- The rows and a call's box. -/
structure TwB (w0 W : World) (n : Nat) (c y : Nat → Nat) (X Z : Nat → Con) (gx cx gy cy bx : Nat) (on kd a : Int) (s : ByteArray) : Prop where
  t : Two w0 W n n n n c y X Z (.slice (some ⟨gx, 0, none⟩) n cx) (.slice (some ⟨gy, 0, none⟩) n cy)
  b : Blk W bx 46 #[.int .i64 on, .int .i64 kd, .int .i64 a, .string s]
section
variable {w0 W W' : World} {n : Nat} {c y : Nat → Nat} {X Z X' Z' : Nat → Con} {gx cx gy cy bx : Nat} {on kd a : Int} {s : ByteArray}
theorem TwB.to (h : TwB w0 W n c y X Z gx cx gy cy bx on kd a s) (hf : Fr [] W W') : TwB w0 W' n c y X Z gx cx gy cy bx on kd a s := ⟨h.t.to hf, h.b.fr hf (by simp)⟩
theorem TwB.tame (h : TwB w0 W n c y X Z gx cx gy cy bx on kd a s) (ht : Two w0 W' n n n n c y X' Z' (.slice (some ⟨gx, 0, none⟩) n cx) (.slice (some ⟨gy, 0, none⟩) n cy)) (hm : Tame W W') : TwB w0 W' n c y X' Z' gx cx gy cy bx on kd a s := ⟨ht, hm.blk h.b (by decide) (by decide) (by decide)⟩
theorem TwB.cells (h : TwB w0 W n c y X Z gx cx gy cy bx on kd a s) {p : Nat} (hp : p < n) : W.cell? ⟨gx, p, none⟩ = some (ptr (c p)) ∧ W.cell? ⟨gy, p, none⟩ = some (ptr (y p)) ∧ W.cell? ⟨bx, 0, none⟩ = some (.int .i64 on) ∧ W.cell? ⟨bx, 1, none⟩ = some (.int .i64 kd) ∧ W.cell? ⟨bx, 2, none⟩ = some (.int .i64 a) ∧ W.cell? ⟨bx, 3, none⟩ = some (.string s) :=
  ⟨h.t.cellX hp, h.t.cellY hp, (h.b.cell 0).trans rfl, (h.b.cell 1).trans rfl, (h.b.cell 2).trans rfl, (h.b.cell 3).trans rfl⟩
end
theorem own_one (W : World) (base : Nat) (e : TypeId) (v : Value) (h : base ≤ W.heap.size) : (W.alloc (.cells #[v] e)).ownsRow base e 1 (.slice (some ⟨W.heap.size, 0, none⟩) 1 1) 1 [v] :=
  ⟨rfl, .inr ⟨W.heap.size, 1, #[v], rfl, h, heap_alloc_new W _, Nat.le_refl _, by simp [maxLen], rfl, rfl⟩⟩
/-- One of each, made since w0. -/
theorem two_first {w0 W : World} {c k y g r : Nat} {x : Con} (hc : ConAt W c k x) (hr : RAt W y x g r) (hf : Fr [] w0 W) (h1 : w0.heap.size ≤ c) (h2 : w0.heap.size ≤ k) (h3 : w0.heap.size ≤ y) (hk : k ≠ g ∧ k ≠ r) :
    Two w0 ((W.alloc (.cells #[ptr c] 25)).alloc (.cells #[ptr y] 27)) 1 1 1 1 (fun _ => c) (fun _ => y) (fun _ => x) (fun _ => x) (.slice (some ⟨W.heap.size, 0, none⟩) 1 1) (.slice (some ⟨W.heap.size + 1, 0, none⟩) 1 1) := by
  have ff : Fr [] W ((W.alloc (.cells #[ptr c] 25)).alloc (.cells #[ptr y] 27)) := ((Fr.refl [] W).alloc _).alloc _
  have hs := hf.size
  refine ⟨⟨fun _ => k, fun _ => g, fun _ => r, ⟨fun i hi => hc.to ff, fun i hi => hr.to ff, fun i j hi hj hn => by omega, fun i j hi hj hn => by omega, fun i j hi hj => hk, hf.trans ff, fun i hi => ⟨h1, h2⟩, fun i hi => h3⟩⟩, ?_, ?_⟩
  · exact own_fr (own_one W w0.heap.size 25 (ptr c) hs) ((Fr.refl [] _).alloc _) (by simp)
  · have := own_one (W.alloc (.cells #[ptr c] 25)) w0.heap.size 27 (ptr y) (by simp; omega)
    simp only [World.size_alloc] at this
    exact this
theorem Tryd.info25 : (Tryd.prog.info? 25).map (fun i => (i.zero, i.size, i.bytes)) = some (some (.pointer none), 1, 8) := by kernel_rfl
theorem Tryd.info27 : (Tryd.prog.info? 27).map (fun i => (i.zero, i.size, i.bytes)) = some (some (.pointer none), 1, 8) := by kernel_rfl
theorem does_no (w : World) (lv : Int) (lg : ByteArray) (hs : lg.size ≤ maxLen) (A : Option Addr) (n cap : Nat) (h : okNew lv lg = false) : Calls Tryd.prog 7 #[.int .i64 lv, .string lg, .slice A n cap] w (FixP w) := by
  have HM : Hid (Calls Tryd.prog 21 #[.int .i64 lv, .string lg] w fun e w' => e = .returned (.tuple #[.pointer none, .int .i64 220]) ∧ Fr [] w w') := Lib.hid ((new_bad lv lg w h).mono fun e w' ⟨hf, hh⟩ => by
    rcases hh with ⟨-, he⟩ | ⟨h1, -⟩
    · exact ⟨he, hf⟩
    · rw [h] at h1; cases h1)
  have HN := nil_end (w := w) lv lg hs h
  have HX := Lib.hid fixed_any
  clear h hs
  go_enter Tryd.func7, Tryd.ntmps7
  go_wp2_with (first
    | (go_at_call 21; refine HM.out.mono ?_; rintro e w1 ⟨rfl, hf⟩; have HF1 := Lib.hid hf; clear hf)
    | (go_at_call 10; refine (HN.out _).mono ?_; rintro e w2 ⟨rfl, rfl⟩)
    | (go_at_call 11; refine (HX.out _).mono ?_; rintro e w3 ⟨rfl, hf3⟩; have HP := Lib.hid (HF1.out.trans hf3); clear hf3))
  go_ret
  exact ⟨rfl, HP.out⟩
set_option maxHeartbeats 8000000 in
theorem does_yes (w : World) (L : Nat) (lg : ByteArray) (A : Option Addr) (n cap : Nat) (ops : Nat → OpC) (ho : OpsC w A n ops) (hn8 : (n + 1) * 8 ≤ 140737488355328) (h : okNew (L : Int) lg = true) : Calls Tryd.prog 7 #[.int .i64 (L : Int), .string lg, .slice A n cap] w (FixP w) := by
  have HM : Hid (Calls Tryd.prog 21 #[.int .i64 (L : Int), .string lg] w fun e w' => ∃ c k, e = .returned (.tuple #[ptr c, .int .i64 0]) ∧ Cn w w' c k (newCon L lg)) := Lib.hid ((cn_new w w (Fr.refl _ _) (L : Int) lg).mono fun e w' hh => by
    rcases hh with ⟨h1, -⟩ | ⟨-, hh⟩
    · rw [h] at h1; cases h1
    · exact hh)
  have HN := Lib.hid (fun W => rNew_ok W L lg h)
  have HO := Lib.hid ho
  have hn : n ≤ 9223372036854775807 := by simpa [maxLen] using ho.1
  have HX := Lib.hid fixed_any
  have HLv := Lib.hid (okNew_spec h)
  obtain ⟨x0, hx0⟩ : ∃ x0, newCon L lg = x0 := ⟨_, rfl⟩
  rw [hx0] at HM HN
  obtain ⟨i0, hi0, hz0, hz1, hz2⟩ := info3 Tryd.info25
  obtain ⟨j0, hj0, hy0, hy1, hy2⟩ := info3 Tryd.info27
  have HN8 := Lib.hid hn8
  clear h ho hx0 hn8
  go_enter Tryd.func7, Tryd.ntmps7
  go_wp2_with (first
    | (go_at_call 21; refine HM.out.mono ?_; rintro e w1 ⟨c, k, rfl, h1⟩)
    | (go_at_call 10; refine (HN.out _).mono ?_; rintro e w2 ⟨y, g, r, rfl, h2, f2, y2, g2, r2⟩; have HT0 := Lib.hid (two_first (h1.a.to f2) h2 (h1.f.trans f2) h1.c0 h1.k0 (Nat.le_trans h1.f.size y2) (by have := h1.a.lt; omega)); clear h1 h2 f2 y2 g2 r2))
  go_loopg [11, 12, 13] n (fun gg vx vy i wr => ∃ (k m : Nat) (c y : Nat → Nat) (X : Nat → Con) (gx cx gy cy : Nat), k + gg = n ∧ i = .int .i64 k ∧ vx = .slice (some ⟨gx, 0, none⟩) m cx ∧ vy = .slice (some ⟨gy, 0, none⟩) m cy ∧ 1 ≤ m ∧ m ≤ k + 1 ∧ Two w wr m m m m c y X X vx vy)
  case atStart => exact ⟨0, 1, _, _, _, _, _, _, _, by omega, rfl, rfl, rfl, by omega, by omega, HT0.out⟩
  case round =>
    clear HT0
    obtain ⟨k, m, c, y, X, gx, cx, gy, cy, hk, rfl, rfl, rfl, m1, mk, hT⟩ := hrel
    have Hk := Lib.hid hk
    have HMK := Lib.hid (And.intro m1 mk)
    by_cases hlt : k < n
    · have hlt' : (k : Int) < (n : Int) := by omega
      have hk0 : (0 : Int) ≤ (k : Int) := by omega
      obtain ⟨b, off, rfl, ha⟩ := HO.out.2 k hlt
      have hr := range_op (ha.fr hT.f)
      have hso := (ops k).hs
      have won := (ops k).won
      have HV1 : Hid (TwB w (wr.alloc (.cells #[.int .i64 (ops k).on, .int .i64 (ops k).kind, .int .i64 (ops k).a, .string (ops k).s] 46)) m c y X X gx cx gy cy wr.heap.size (ops k).on (ops k).kind (ops k).a (ops k).s) := Lib.hid ⟨hT.to ((Fr.refl [] wr).alloc _), Blk.new wr 46 _⟩
      clear ha hk hT mk
      generalize (ops k).kind = K at *
      generalize (ops k).a = a at *
      generalize (ops k).s = s at *
      generalize (ops k).on = on at *
      have hm62 : m ≤ 4611686018427387904 := by have := HN8.out; have := HMK.out; omega
      have HPL := Lib.hid (fun W => place_any on m (by omega) hm62 won.1 won.2 W)
      obtain ⟨p, hp⟩ : ∃ p : Nat, on % (m : Int) = (p : Int) := Int.eq_ofNat_of_zero_le (Int.emod_nonneg on (by omega))
      have hpm : p < m := by have := Int.emod_lt_of_pos on (show (0 : Int) < (m : Int) by omega); omega
      rw [hp] at HPL
      have HPM := Lib.hid hpm
      have p0 : (0 : Int) ≤ (p : Int) := by omega
      have pm : (p : Int) < (m : Int) := by omega
      clear hp won hm62 hpm
      obtain ⟨V0, rfl⟩ : ∃ V0, V0 = wr := ⟨_, rfl⟩
      go_upto_block 2 with (first
        | (refine wpList_load_mid rfl 46 (.tmp 67) rfl b (off + k * 4) rfl [.int .i64 on, .int .i64 K, .int .i64 a, .string s] _ hr Tryd.underlying46 rfl size46 ?_)
        | (go_at_call 22; refine (HPL.out _).mono ?_; rintro e wz ⟨rfl, rfl⟩))
      generalize hWb : V0.alloc (.cells #[.int .i64 on, .int .i64 K, .int .i64 a, .string s] 46) = V1 at *
      generalize V0.heap.size = bx at *
      have HCX : Hid (∀ W X' Z', TwB w W m c y X' Z' gx cx gy cy bx on K a s → W.cell? ⟨gx, p, none⟩ = some (ptr (c p)) ∧ W.cell? ⟨gy, p, none⟩ = some (ptr (y p)) ∧ W.cell? ⟨bx, 0, none⟩ = some (.int .i64 on) ∧ W.cell? ⟨bx, 1, none⟩ = some (.int .i64 K) ∧ W.cell? ⟨bx, 2, none⟩ = some (.int .i64 a) ∧ W.cell? ⟨bx, 3, none⟩ = some (.string s)) := Lib.hid fun W X' Z' hv => hv.cells HPM.out
      clear hWb
      go_cut [11, 12] (fun vx vy wx => ∃ (m2 : Nat) (c2 y2 : Nat → Nat) (X2 : Nat → Con) (gx2 cx2 gy2 cy2 : Nat), vx = .slice (some ⟨gx2, 0, none⟩) m2 cx2 ∧ vy = .slice (some ⟨gy2, 0, none⟩) m2 cy2 ∧ m ≤ m2 ∧ m2 ≤ m + 1 ∧ Two w wx m2 m2 m2 m2 c2 y2 X2 X2 vx vy)
      case first =>
        by_cases h0 : K = 0
        · subst h0
          obtain ⟨X1, hX1⟩ : ∃ X1, updA X p (keysX (X p) s.data.toList) = X1 := ⟨_, rfl⟩
          obtain ⟨ZK, hZK⟩ : ∃ ZK : Nat → Nat → Con, (fun j => updA X p (keysX (X p) (s.data.toList.take j))) = ZK := ⟨_, rfl⟩
          have HKY : Hid (∀ W Z', TwB w W m c y X Z' gx cx gy cy bx on 0 a s → Calls Tryd.prog 23 #[ptr (c p), .string s] W fun e w' => e = .returned (.tuple #[]) ∧ TwB w w' m c y X1 Z' gx cx gy cy bx on 0 a s) := Lib.hid fun W Z' hv => (hv.t.keys HPM.out s hso).mono fun e w' ⟨he, ht, hm⟩ => ⟨he, by rw [hX1] at ht; exact hv.tame ht hm⟩
          have HZ0 : Hid (ZK 0 = X) := Lib.hid (by rw [← hZK]; exact updA_id X p)
          have HZE : Hid (ZK s.size = X1) := Lib.hid (by
            rw [← hZK, ← hX1]
            have e : s.data.toList.take s.size = s.data.toList := List.take_length
            simp only [e])
          have HZS : Hid (∀ j (hj : j < s.size) W, TwB w W m c y X1 (ZK j) gx cx gy cy bx on 0 a s → Calls Tryd.prog 24 #[ptr (y p), .int .u8 (s[j].toNat : Int)] W fun e w' => e = .returned (.tuple #[]) ∧ TwB w w' m c y X1 (ZK (j + 1)) gx cx gy cy bx on 0 a s) := Lib.hid fun j hj W hv => (hv.t.rkey HPM.out s[j]).mono fun e w' ⟨he, ht, hm⟩ => ⟨he, by
            have e1 : updA (ZK j) p (key (ZK j p) s[j]) = ZK (j + 1) := by
              rw [← hZK]
              show updA (updA X p (keysX (X p) (s.data.toList.take j))) p (key (updA X p (keysX (X p) (s.data.toList.take j)) p) s[j]) = updA X p (keysX (X p) (s.data.toList.take (j + 1)))
              rw [updA_same, updA_twice, keysX_snoc (X p) s hj]
            rw [e1] at ht
            exact hv.tame ht hm⟩
          have hss : s.size ≤ 9223372036854775807 := by simpa [maxLen] using hso
          have kk := HCX.out _ _ _ HV1.out
          have hv : TwB w V1.drew m c y X X gx cx gy cy bx on 0 a s := HV1.out.to (Fr.refl [] V1).drew
          clear hX1 hZK hso
          go_wp2_with fail
          go_region_held3 (fun W => W.cell? ⟨gx, p, none⟩ = some (ptr (c p)) ∧ W.cell? ⟨gy, p, none⟩ = some (ptr (y p)) ∧ W.cell? ⟨bx, 0, none⟩ = some (.int .i64 on) ∧ W.cell? ⟨bx, 1, none⟩ = some (.int .i64 0) ∧ W.cell? ⟨bx, 2, none⟩ = some (.int .i64 a) ∧ W.cell? ⟨bx, 3, none⟩ = some (.string s)) (first | exact kk | go_keep) (first
            | (go_at_call 23; have hq := HKY.out _ _ hv; (with_reducible refine hq.mono ?_); clear hq; rintro e w4 ⟨rfl, hv⟩; have kk := HCX.out _ _ _ hv))
          have HS4 := Lib.hid hv
          clear hv kk
          go_wp2_with fail
          go_loopg [16] s.size (fun gg i wr => ∃ j : Nat, j + gg = s.size ∧ i = .int .i64 j ∧ TwB w wr m c y X1 (ZK j) gx cx gy cy bx on 0 a s)
          case atStart => exact ⟨0, by omega, rfl, by rw [HZ0.out]; exact HS4.out⟩
          case round =>
            clear HS4
            obtain ⟨j, hj, rfl, hv⟩ := hrel
            have Hj := Lib.hid hj
            have kk := HCX.out _ _ _ hv
            by_cases hjs : j < s.size
            · have hjs' : (j : Int) < (s.size : Int) := by omega
              have hj0 : (0 : Int) ≤ (j : Int) := by omega
              have HRK := Lib.hid (HZS.out j hjs wr.drew (hv.to (Fr.refl [] wr).drew))
              clear hj hv
              go_wp2_with fail
              go_region_held3 (fun W => W.cell? ⟨gx, p, none⟩ = some (ptr (c p)) ∧ W.cell? ⟨gy, p, none⟩ = some (ptr (y p)) ∧ W.cell? ⟨bx, 0, none⟩ = some (.int .i64 on) ∧ W.cell? ⟨bx, 1, none⟩ = some (.int .i64 0) ∧ W.cell? ⟨bx, 2, none⟩ = some (.int .i64 a) ∧ W.cell? ⟨bx, 3, none⟩ = some (.string s)) (first | exact kk | go_keep) (first
                | (go_at_call 24; have hq := HRK.out; (with_reducible refine hq.mono ?_); clear hq; rintro e w5 ⟨rfl, hv⟩; have kk := HCX.out _ _ _ hv))
              have HS5 := Lib.hid hv
              clear hv kk
              go_wp2_with fail
              go_roundg (s.size - (j + 1))
              case measure => have := Hj.out; omega
              case rel => exact ⟨j + 1, by have := Hj.out; omega, by go_num, HS5.out⟩
            · have hjs' : ¬ (j : Int) < (s.size : Int) := by omega
              obtain rfl : j = s.size := by omega
              rw [HZE.out] at hv
              have HQ := Lib.hid hv.t
              clear hj hv
              go_wp2_with fail
              go_meet
              exact ⟨m, c, y, X1, gx, cx, gy, cy, rfl, rfl, Nat.le_refl _, Nat.le_succ _, HQ.out⟩
        · have e0 : (K == 0) = false := beq_eq_false_iff_ne.2 h0
          by_cases h1 : K = 1
          · subst h1
            obtain ⟨X1, hX1⟩ : ∃ X1, updA X p (write (X p) a s.data.toList) = X1 := ⟨_, rfl⟩
            obtain ⟨ev, hev⟩ : ∃ ev, wrE (X p) a = ev := ⟨_, rfl⟩
            have HWA : Hid (∀ W Z', TwB w W m c y X Z' gx cx gy cy bx on 1 a s → Calls Tryd.prog 19 #[ptr (c p), .int .i64 a, .string s] W fun e w' => e = .returned (.int .i64 ev) ∧ TwB w w' m c y X1 Z' gx cx gy cy bx on 1 a s) := Lib.hid fun W Z' hv => (hv.t.write HPM.out a s hso).mono fun e w' ⟨he, ht, hm⟩ => ⟨by rw [he, hev], by rw [hX1] at ht; exact hv.tame ht hm⟩
            have HWB : Hid (∀ W Z', TwB w W m c y Z' X gx cx gy cy bx on 1 a s → Calls Tryd.prog 25 #[ptr (y p), .int .i64 a, .string s] W fun e w' => e = .returned (.int .i64 ev) ∧ TwB w w' m c y Z' X1 gx cx gy cy bx on 1 a s) := Lib.hid fun W Z' hv => (hv.t.rwrite HPM.out a s hso).mono fun e w' ⟨he, ht, hm⟩ => ⟨by rw [he, hev], by rw [hX1] at ht; exact hv.tame ht hm⟩
            have kk := HCX.out _ _ _ HV1.out
            have hv : TwB w V1.drew m c y X X gx cx gy cy bx on 1 a s := HV1.out.to (Fr.refl [] V1).drew
            clear hX1 hev hso h0
            go_wp2_with fail
            go_region_held3 (fun W => W.cell? ⟨gx, p, none⟩ = some (ptr (c p)) ∧ W.cell? ⟨gy, p, none⟩ = some (ptr (y p)) ∧ W.cell? ⟨bx, 0, none⟩ = some (.int .i64 on) ∧ W.cell? ⟨bx, 1, none⟩ = some (.int .i64 1) ∧ W.cell? ⟨bx, 2, none⟩ = some (.int .i64 a) ∧ W.cell? ⟨bx, 3, none⟩ = some (.string s)) (first | exact kk | go_keep) (first
              | (go_at_call 19; have hq := HWA.out _ _ hv; (with_reducible refine hq.mono ?_); clear hq; rintro e w4 ⟨rfl, hv⟩; have kk := HCX.out _ _ _ hv)
              | (go_at_call 25; have hq := HWB.out _ _ hv; (with_reducible refine hq.mono ?_); clear hq; rintro e w4 ⟨rfl, hv⟩; have kk := HCX.out _ _ _ hv))
            all_goals (
              have HQ := Lib.hid hv.t
              clear hv kk
              go_wp2_with fail
              go_meet
              exact ⟨m, c, y, X1, gx, cx, gy, cy, rfl, rfl, Nat.le_refl _, Nat.le_succ _, HQ.out⟩)
          · have e1 : (K == 1) = false := beq_eq_false_iff_ne.2 h1
            by_cases h2 : K = 2
            · subst h2
              obtain ⟨X1, hX1⟩ : ∃ X1, updA X p (takeX (X p) a) = X1 := ⟨_, rfl⟩
              obtain ⟨ev, hev⟩ : ∃ ev, wrE (X p) a = ev := ⟨_, rfl⟩
              obtain ⟨ts, hts⟩ : ∃ ts, takeS (X p) a = ts := ⟨_, rfl⟩
              have HWA : Hid (∀ W, TwB w W m c y X X gx cx gy cy bx on 2 a s → Calls Tryd.prog 12 #[ptr (c p), .int .i64 a] W fun e w' => e = .returned (.tuple #[.string ts, .int .i64 ev]) ∧ TwB w w' m c y X1 X gx cx gy cy bx on 2 a s) := Lib.hid fun W hv => (hv.t.take HPM.out a).mono fun e w' ⟨he, ht, hm⟩ => ⟨by rw [he, hev, hts], by rw [hX1] at ht; exact hv.tame ht hm⟩
              have HWB : Hid (∀ W, TwB w W m c y X1 X gx cx gy cy bx on 2 a s → Calls Tryd.prog 26 #[ptr (y p), .int .i64 a] W fun e w' => e = .returned (.tuple #[.string ts, .int .i64 ev]) ∧ TwB w w' m c y X1 X1 gx cx gy cy bx on 2 a s) := Lib.hid fun W hv => (hv.t.rtake HPM.out a).mono fun e w' ⟨he, ht, hm⟩ => ⟨by rw [he, hev, hts], by rw [hX1] at ht; exact hv.tame ht hm⟩
              have kk := HCX.out _ _ _ HV1.out
              have hv : TwB w V1.drew m c y X X gx cx gy cy bx on 2 a s := HV1.out.to (Fr.refl [] V1).drew
              clear hX1 hev hts hso h0 h1
              go_wp2_with fail
              go_region_held3 (fun W => W.cell? ⟨gx, p, none⟩ = some (ptr (c p)) ∧ W.cell? ⟨gy, p, none⟩ = some (ptr (y p)) ∧ W.cell? ⟨bx, 0, none⟩ = some (.int .i64 on) ∧ W.cell? ⟨bx, 1, none⟩ = some (.int .i64 2) ∧ W.cell? ⟨bx, 2, none⟩ = some (.int .i64 a) ∧ W.cell? ⟨bx, 3, none⟩ = some (.string s)) (first | exact kk | go_keep) (first
                | (go_at_call 12; have hq := HWA.out _ hv; (with_reducible refine hq.mono ?_); clear hq; rintro e w4 ⟨rfl, hv⟩; have kk := HCX.out _ _ _ hv))
              have hv := hv.to (Fr.refl [] w4).drew
              go_wp2_with fail
              go_region_held3 (fun W => W.cell? ⟨gx, p, none⟩ = some (ptr (c p)) ∧ W.cell? ⟨gy, p, none⟩ = some (ptr (y p)) ∧ W.cell? ⟨bx, 0, none⟩ = some (.int .i64 on) ∧ W.cell? ⟨bx, 1, none⟩ = some (.int .i64 2) ∧ W.cell? ⟨bx, 2, none⟩ = some (.int .i64 a) ∧ W.cell? ⟨bx, 3, none⟩ = some (.string s)) (first | exact kk | go_keep) (first
                | (go_at_call 26; have hq := HWB.out _ hv; (with_reducible refine hq.mono ?_); clear hq; rintro e w5 ⟨rfl, hv⟩; have kk := HCX.out _ _ _ hv))
              have HQ := Lib.hid hv.t
              clear hv kk
              go_wp2_with fail
              go_meet
              exact ⟨m, c, y, X1, gx, cx, gy, cy, rfl, rfl, Nat.le_refl _, Nat.le_succ _, HQ.out⟩
            · have e2 : (K == 2) = false := beq_eq_false_iff_ne.2 h2
              by_cases h3 : K = 3
              · subst h3
                obtain ⟨X1, hX1⟩ : ∃ X1, updA X p (reset (X p)) = X1 := ⟨_, rfl⟩
                have HWA : Hid (∀ W, TwB w W m c y X X gx cx gy cy bx on 3 a s → Calls Tryd.prog 27 #[ptr (c p)] W fun e w' => e = .returned (.tuple #[]) ∧ TwB w w' m c y X1 X gx cx gy cy bx on 3 a s) := Lib.hid fun W hv => (hv.t.reset HPM.out).mono fun e w' ⟨he, ht, hm⟩ => ⟨he, by rw [hX1] at ht; exact hv.tame ht hm⟩
                have HWB : Hid (∀ W, TwB w W m c y X1 X gx cx gy cy bx on 3 a s → Calls Tryd.prog 28 #[ptr (y p)] W fun e w' => e = .returned (.tuple #[]) ∧ TwB w w' m c y X1 X1 gx cx gy cy bx on 3 a s) := Lib.hid fun W hv => (hv.t.rreset HPM.out).mono fun e w' ⟨he, ht, hm⟩ => ⟨he, by rw [hX1] at ht; exact hv.tame ht hm⟩
                have kk := HCX.out _ _ _ HV1.out
                have hv := HV1.out
                clear hX1 hso h0 h1 h2
                go_wp2_with (first
                  | (go_at_call 27; have hq := HWA.out _ hv; (with_reducible refine hq.mono ?_); clear hq; rintro e w4 ⟨rfl, hv⟩; have kk4 := HCX.out _ _ _ hv)
                  | (go_at_call 28; have hq := HWB.out _ hv; (with_reducible refine hq.mono ?_); clear hq; rintro e w5 ⟨rfl, hv⟩; have HQ := Lib.hid hv.t; clear hv))
                go_meet
                exact ⟨m, c, y, X1, gx, cx, gy, cy, rfl, rfl, Nat.le_refl _, Nat.le_succ _, HQ.out⟩
              · have e3 : (K == 3) = false := beq_eq_false_iff_ne.2 h3
                by_cases h4 : K = 4
                · subst h4
                  have HCL := Lib.hid (HV1.out.t.clone HPM.out)
                  have HCP : Hid (∀ W c' vx', Two w W (m + 1) (m + 1) m m (updA c m c') y (updA X m (X p)) X vx' (.slice (some ⟨gy, 0, none⟩) m cy) → Calls Tryd.prog 30 #[ptr (y p)] W fun e w' => ∃ y', e = .returned (ptr y') ∧ Two w w' (m + 1) (m + 1) (m + 1) m (updA c m c') (updA y m y') (updA X m (X p)) (updA X m (X p)) vx' (.slice (some ⟨gy, 0, none⟩) m cy) ∧ Fr [] W w') := Lib.hid fun W c' vx' hv => hv.copy HPM.out
                  have kk := HCX.out _ _ _ HV1.out
                  have hm1 : m + 1 ≤ maxLen := by simp only [maxLen]; have := HN8.out; have := HMK.out; omega
                  have hm2 : (m + 1) * 8 ≤ 140737488355328 := by have := HN8.out; have := HMK.out; omega
                  have hvs := HV1.out.t.f.size
                  clear hso h0 h1 h2 h3
                  go_wp2_with (first
                    | (go_at_call 29; refine HCL.out.mono ?_; rintro e w4 ⟨c', rfl, hT4, hf4⟩; have hw4 := hf4.size; have HT5 := Lib.hid (hT4.to ((Fr.refl [] w4).alloc (.cells #[ptr c'] 25))); have HO5 := Lib.hid HT5.out.xs; have HN5 := Lib.hid (news1 (w := w4.alloc (.cells #[ptr c'] 25)) (b := w4.heap.size) (x := ptr c') (by simp)); clear hT4 hf4)
                    | (go_at_call 30; refine (HCP.out _ _ _ HT6.out).mono ?_; rintro e w7 ⟨y', rfl, hT7, hf7⟩; have hw7 := hf7.size; have HT8 := Lib.hid (hT7.to ((Fr.refl [] w7).alloc (.cells #[ptr y'] 27))); have HO8 := Lib.hid HT8.out.ys; have HN8' := Lib.hid (news1 (w := w7.alloc (.cells #[ptr y'] 27)) (b := w7.heap.size) (x := ptr y') (by simp)); clear hT7 hf7)
                    | (at_builtin; refine wpList_append_own _ rfl (.tmp 177) (.tmp 183) 51 rfl w.heap.size 27 j0 (.pointer none) 1 8 Tryd.underlying51 hj0 hy0 hy1 hy2 rfl (Nat.succ_pos 0) (.slice (some ⟨gy, 0, none⟩) m cy) m (ptrs (updA y m y') m) rfl HO8.out ⟨w7.heap.size, 0, none⟩ 1 1 [ptr y'] rfl rfl HN8'.out (by simp [Value.oneCell']) hm1 hm2 (by simp; omega) ?_; intro v9 w9 ho9 hg9 hn9; rw [ptrs_upd, ← ptrs_snoc] at ho9; obtain ⟨g9, c9, rfl⟩ : ∃ g cap, v9 = .slice (some ⟨g, 0, none⟩) (m + 1) cap := own_succ ho9; obtain ⟨hT9, -⟩ := HT8.out.growY ho9 hg9; have HT9 := Lib.hid hT9; clear ho9 hg9 hn9 hT9)
                    | (at_builtin; refine wpList_append_own _ rfl (.tmp 173) (.tmp 175) 50 rfl w.heap.size 25 i0 (.pointer none) 1 8 Tryd.underlying50 hi0 hz0 hz1 hz2 rfl (Nat.succ_pos 0) (.slice (some ⟨gx, 0, none⟩) m cx) m (ptrs (updA c m c') m) rfl HO5.out ⟨w4.heap.size, 0, none⟩ 1 1 [ptr c'] rfl rfl HN5.out (by simp [Value.oneCell']) hm1 hm2 (by simp; omega) ?_; intro v6 w6 ho6 hg6 hn6; rw [ptrs_upd, ← ptrs_snoc] at ho6; obtain ⟨g6, c6, rfl⟩ : ∃ g cap, v6 = .slice (some ⟨g, 0, none⟩) (m + 1) cap := own_succ ho6; obtain ⟨hT6, -⟩ := HT5.out.growX ho6 hg6; have HT6 := Lib.hid hT6; have kk6 := hT6.cellY HPM.out; have hw6 : w4.heap.size + 1 ≤ w6.heap.size := (by have := hg6.size; simpa using this); clear ho6 hg6 hn6 hT6))
                  go_meet
                  exact ⟨m + 1, _, _, _, g6, c6, g9, c9, rfl, rfl, Nat.le_succ _, Nat.le_refl _, HT9.out⟩
                · have e4 : (K == 4) = false := beq_eq_false_iff_ne.2 h4
                  have kk := HCX.out _ _ _ HV1.out
                  have HQ := Lib.hid HV1.out.t
                  clear hso h0 h1 h2 h3 h4
                  go_wp2_with fail
                  go_meet
                  exact ⟨m, c, y, X, gx, cx, gy, cy, rfl, rfl, Nat.le_refl _, Nat.le_succ _, HQ.out⟩
      case rest =>
        obtain ⟨m2, c2, y2, X2, gx2, cx2, gy2, cy2, rfl, rfl, hm1, hm2, hT⟩ := hcut
        have hpm2 : p < m2 := by have := HPM.out; omega
        have HM2 := Lib.hid (And.intro hm1 hm2)
        have kk : wc.cell? ⟨gx2, p, none⟩ = some (ptr (c2 p)) ∧ wc.cell? ⟨gy2, p, none⟩ = some (ptr (y2 p)) := ⟨hT.cellX hpm2, hT.cellY hpm2⟩
        have pm2 : (p : Int) < (m2 : Int) := by omega
        have hT0 := hT.to (Fr.refl [] wc).drew
        have HSH := Lib.hid (hT0.shows hpm2 hpm2 rfl)
        have HCE : Hid (∀ W, Two w W m2 m2 m2 m2 c2 y2 X2 X2 (.slice (some ⟨gx2, 0, none⟩) m2 cx2) (.slice (some ⟨gy2, 0, none⟩) m2 cy2) → W.cell? ⟨gx2, p, none⟩ = some (ptr (c2 p)) ∧ W.cell? ⟨gy2, p, none⟩ = some (ptr (y2 p))) := Lib.hid fun W h => ⟨h.cellX hpm2, h.cellY hpm2⟩
        clear hm1 hm2 hT hpm2 hT0 HV1
        go_wp2_with fail
        go_region_held3 (fun W => W.cell? ⟨gx2, p, none⟩ = some (ptr (c2 p)) ∧ W.cell? ⟨gy2, p, none⟩ = some (ptr (y2 p))) (first | exact kk | go_keep) (first
          | (go_at_call 31; refine HSH.out.mono ?_; rintro e w4 ⟨rfl, hT4, -⟩; have kk := HCE.out _ hT4))
        have HT4 := Lib.hid hT4
        clear hT4 kk
        go_wp2_with fail
        go_roundg (n - (k + 1))
        case measure => have := Hk.out; omega
        case rel => exact ⟨k + 1, m2, c2, y2, X2, gx2, cx2, gy2, cy2, by have := Hk.out; omega, by go_num, rfl, rfl, by have := HM2.out; have := HMK.out; omega, by have := HM2.out; have := HMK.out; omega, HT4.out⟩
    · have HT1 := Lib.hid hT
      have HF := Lib.hid hT.f
      have hL8 : L ≤ 8 := by obtain ⟨L', hL, -, l8, -⟩ := HLv.out; omega
      have hm1 : m ≤ 9223372036854775807 := by have := HN8.out; omega
      clear hk hT
      go_wp2_with fail
      go_loopg [23] m (fun gg i wr => ∃ (j : Nat) (X' : Nat → Con), j + gg = m ∧ i = .int .i64 j ∧ Two w wr m m m m c y X' X' (.slice (some ⟨gx, 0, none⟩) m cx) (.slice (some ⟨gy, 0, none⟩) m cy))
      case atStart => exact ⟨0, X, by omega, rfl, HT1.out⟩
      case round =>
        clear HT1
        obtain ⟨j, X', hj, rfl, hT⟩ := hrel
        have Hj := Lib.hid hj
        by_cases hjm : j < m
        · have hjm' : (j : Int) < (m : Int) := by omega
          have hj0 : (0 : Int) ≤ (j : Int) := by omega
          have kk : wr.cell? ⟨gx, j, none⟩ = some (ptr (c j)) ∧ wr.cell? ⟨gy, j, none⟩ = some (ptr (y j)) := ⟨hT.cellX hjm, hT.cellY hjm⟩
          have HSH := Lib.hid ((hT.to (Fr.refl [] wr).drew).shows hjm hjm rfl)
          have HCE : Hid (∀ W X' Z', Two w W m m m m c y X' Z' (.slice (some ⟨gx, 0, none⟩) m cx) (.slice (some ⟨gy, 0, none⟩) m cy) → W.cell? ⟨gx, j, none⟩ = some (ptr (c j)) ∧ W.cell? ⟨gy, j, none⟩ = some (ptr (y j))) := Lib.hid fun W X' Z' h => ⟨h.cellX hjm, h.cellY hjm⟩
          have HJM := Lib.hid hjm
          clear hj hT hjm
          go_wp2_with fail
          go_region_held3 (fun W => W.cell? ⟨gx, j, none⟩ = some (ptr (c j)) ∧ W.cell? ⟨gy, j, none⟩ = some (ptr (y j))) (first | exact kk | go_keep) (first
            | (go_at_call 31; refine HSH.out.mono ?_; rintro e w4 ⟨rfl, hT4, -⟩; have kk := HCE.out _ _ _ hT4))
          have HT4 := Lib.hid hT4
          clear hT4 kk
          obtain ⟨V2, rfl⟩ : ∃ V2, V2 = wr := ⟨_, rfl⟩
          go_wp2_with fail
          go_loopg [25] L (fun gg i wr => ∃ (l : Nat) (X' : Nat → Con), l + gg = L ∧ i = .int .i64 l ∧ Two w wr m m m m c y X' X' (.slice (some ⟨gx, 0, none⟩) m cx) (.slice (some ⟨gy, 0, none⟩) m cy))
          case atStart => exact ⟨0, X', by omega, rfl, HT4.out⟩
          case round =>
            clear HT4
            obtain ⟨l, X', hl, rfl, hT⟩ := hrel
            have Hl := Lib.hid hl
            have HT5 := Lib.hid hT
            by_cases hlL : l < L
            · have hlL' : (l : Int) < (L : Int) := by omega
              obtain ⟨k1, k2⟩ := HCE.out _ _ _ hT
              have HTK := Lib.hid (hT.take HJM.out (l : Int))
              have HRT := Lib.hid (fun W (h : Two w W m m m m c y (updA X' j (takeX (X' j) (l : Int))) X' (.slice (some ⟨gx, 0, none⟩) m cx) (.slice (some ⟨gy, 0, none⟩) m cy)) => h.rtake HJM.out (l : Int))
              clear hl hT
              generalize takeS (X' j) (l : Int) = ts at *
              generalize wrE (X' j) (l : Int) = ev at *
              generalize updA X' j (takeX (X' j) (l : Int)) = X2 at *
              go_wp2_with (first
                | (go_at_call 12; refine HTK.out.mono ?_; rintro e w5 ⟨rfl, hT5, -⟩; obtain ⟨k3, k4⟩ := HCE.out _ _ _ hT5)
                | (go_at_call 26; refine (HRT.out _ hT5).mono ?_; rintro e w6 ⟨rfl, hT6, -⟩; have HT6 := Lib.hid hT6; clear hT6))
              go_roundg (L - (l + 1))
              case measure => have := Hl.out; omega
              case rel => exact ⟨l + 1, X2, by have := Hl.out; omega, by go_num, HT6.out⟩
            · have hlL' : ¬ (l : Int) < (L : Int) := by omega
              clear hl hT
              go_wp2_with fail
              go_roundg (m - (j + 1))
              case measure => have := Hj.out; omega
              case rel => exact ⟨j + 1, X', by have := Hj.out; omega, by go_num, HT5.out⟩
        · have hjm' : ¬ (j : Int) < (m : Int) := by omega
          have HFr := Lib.hid hT.f
          clear hj hT
          go_wp2_with (go_at_call 11; refine (HX.out _).mono ?_; rintro e w9 ⟨rfl, hf9⟩; have HP := Lib.hid (HFr.out.trans hf9); clear hf9)
          go_ret
          exact ⟨rfl, HP.out⟩
theorem does_walk (w : World) (lv : Int) (lg : ByteArray) (hs : lg.size ≤ maxLen) (A : Option Addr) (n cap : Nat) (ops : Nat → OpC) (ho : OpsC w A n ops) (hn8 : (n + 1) * 8 ≤ 140737488355328) : Calls Tryd.prog 7 #[.int .i64 lv, .string lg, .slice A n cap] w (FixP w) := by
  cases h : okNew lv lg with
  | false => exact does_no w lv lg hs A n cap h
  | true =>
    obtain ⟨L, rfl, -⟩ := okNew_spec h
    exact does_yes w L lg A n cap ops ho hn8 h
end Go.Proofs.YtkjahokffpihmaaDoor

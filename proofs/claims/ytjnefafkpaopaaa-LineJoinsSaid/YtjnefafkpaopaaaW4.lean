/- Line: Send, of the reference. -/
import Derived.Test.YtjnefafkpaopaaaW3
import Derived.Test.YtjnefafkpaopaaaRd
namespace Go.Proofs.Ytjnefafkpaopaaa
open Go.RowKit
set_option linter.unusedVariables false
set_option linter.unusedSimpArgs false

set_option maxRecDepth 100000 in
set_option maxHeartbeats 400000 in
theorem rSend_long (s : ByteArray) (w : World) (h : 2047 < s.size) (h2 : s.size ≤ 140737488355328) : Calls Try.prog 6 #[.string s] w fun e w' => e = .returned (.tuple #[.slice none 0 0, .int .i64 33]) ∧ w = w' := by
  obtain ⟨N, hN⟩ : ∃ N, s.size = N := ⟨_, rfl⟩
  rw [hN] at h h2
  have hb : (2047 : Int) < N := by omega
  go_enter Try.func6, Try.ntmps6
  go_wp2
  go_ret2
  exact ⟨rfl, rfl⟩
structure SR (w : World) (s : ByteArray) (k : Nat) (v : Value) (W : World) : Prop where
  own : W.ownsRow w.heap.size 27 1 v (2 * k + 1) (enc (row (s.data.toList.take k)))
  fr : Fr [] w W
theorem SR.start (w : World) (s : ByteArray) : SR w s 0 (.slice (some ⟨w.heap.size, 0, none⟩) 1 1) (w.alloc (.cells #[.complex .f64 4613937818241073152 4613937818241073152] 27)) :=
  ⟨⟨rfl, .inr ⟨w.heap.size, 1, _, rfl, Nat.le_refl _, Blk.new w 27 #[.complex .f64 4613937818241073152 4613937818241073152], by omega, by simp [maxLen], rfl, rfl⟩⟩, (Fr.refl _ _).alloc _⟩
theorem index_at {s : ByteArray} {k : Nat} {b : UInt8} (h : s.data.toList[k]? = some b) : s[k]? = some b := by
  have h1 := List.getElem?_eq_some_iff.1 h
  obtain ⟨h2, h3⟩ := h1
  have h4 : k < s.size := by simpa using h2
  rw [getElem?_pos s k h4]
  have : s[k] = s.data[k] := rfl
  rw [this]
  simpa using h3

theorem wpIn_append {F : Fence} {n : Nat} {P : Program} {w : World} {o : Oper} {a : Act} {K : Act → World → Prop} {Q : Exit → Act → World → Prop}
    (s x : Operand) (t : TypeId) (hop : o.op = Op.call { callee := Callee.builtin Builtin.append, args := #[s, x], argTypes := #[t, t] })
    (base : Nat) (e : TypeId) (i : TypeInfo) (z : Value) (size bytes : Nat) (h1 : P.underlying t = some (.slice e)) (h2 : P.info? e = some i) (h3 : i.zero = some z) (h4 : i.size = size) (h5 : i.bytes = bytes) (h6 : z.cells.size = size) (h7 : 0 < size)
    (v : Value) (k : Nat) (xs : List Value) (hs : a.eval s = v) (hown : w.ownsRow base e size v k xs) (ad : Addr) (m c : Nat) (news : List Value) (hx : a.eval x = .slice (some ad) m c) (hn : news.length = m * size)
    (hc : ∀ j u, news[j]? = some u → w.cell? (ad.add j) = some u) (h1c : ∀ u ∈ news, u.oneCell' = true) (b1 : k + m ≤ maxLen) (b2 : (k + m) * bytes ≤ 140737488355328) (b3 : base ≤ w.heap.size)
    (hK : ∀ v' w', w'.ownsRow base e size v' (k + m) (xs ++ news) → w.grownBy w' v.ownBlock → (v' = .slice none 0 0 ↔ v = .slice none 0 0 ∧ m = 0) → K (a.put o.dst v') w') :
    Oper.wpIn F n P o a w K Q := by
  obtain ⟨v', w', hrun, r1, r2, r3⟩ := run_append_own (P := P) w base t o.type e i z size bytes h1 h2 h3 h4 h5 h6 h7 v k xs hown ad m c news hn hc h1c b1 b2 b3
  unfold Oper.wpIn
  refine ⟨?_, ?_⟩
  · simp [Oper.about, hop, resolve, Target.leads, Sem.run_pure]
  · rw [Oper.semAt_plain F _ _ (by rw [hop]; intro c hc'; cases hc')]
    simp [execOp, hop, resolve, invoke, builtin, hs, hx, hrun, Result.andThen]
    exact hK v' w' r1 r2 r3

structure RI (w wr : World) (s : ByteArray) (k n' x1 y1 x2 y2 : Nat) (b0 b13 b14 b15 : Bool) (x' : Value) (w' : World) : Prop where
  r0 : b13 = false → w' = wr.drew
  r1 : b13 = true → b14 = false → w' = wr.drew.alloc (.cells #[.complex .f64 x1 y1, .complex .f64 x2 y2] 27)
  r2 : b14 = true → SR w s (k + 1) x' w' ∧ ∃ A c, x' = .slice A (n' + 2) c
  c14 : b14 = true → b13 = true
  c15 : b15 = true → b14 = true
  c0 : b15 = true → b0 = true
theorem RI.a13 {w wr w' : World} {s : ByteArray} {k n' x1 y1 x2 y2 : Nat} {b0 b13 b15 : Bool} {x' : Value} (R : RI w wr s k n' x1 y1 x2 y2 b0 b13 false b15 x' w') : RI w wr s k n' x1 y1 x2 y2 b0 true false b15 x' (wr.drew.alloc (.cells #[.complex .f64 x1 y1, .complex .f64 x2 y2] 27)) :=
  ⟨fun h => (by cases h), fun _ _ => rfl, fun h => (by cases h), fun _ => rfl, R.c15, R.c0⟩
theorem RI.a0 {w wr w' : World} {s : ByteArray} {k n' x1 y1 x2 y2 : Nat} {b0 b13 b14 : Bool} {x' : Value} (R : RI w wr s k n' x1 y1 x2 y2 b0 b13 b14 false x' w') : RI w wr s k n' x1 y1 x2 y2 true b13 b14 false x' w' :=
  ⟨R.r0, R.r1, R.r2, R.c14, R.c15, fun _ => rfl⟩
theorem RI.a14 {w wr w' w'' : World} {s : ByteArray} {k n' x1 y1 x2 y2 : Nat} {b0 b13 b14 b15 : Bool} {x' v' v : Value} {xs : List Value} (R : RI w wr s k n' x1 y1 x2 y2 b0 b13 b14 b15 x' w') (hf : Fr [] w wr) (hX : (wr.drew.alloc (.cells #[.complex .f64 x1 y1, .complex .f64 x2 y2] 27)).ownsRow w.heap.size 27 1 v n' xs)
    (ho : w''.ownsRow w.heap.size 27 1 v' (2 * (k + 1) + 1) (enc (row (s.data.toList.take (k + 1))))) (hg : (wr.drew.alloc (.cells #[.complex .f64 x1 y1, .complex .f64 x2 y2] 27)).grownBy w'' v.ownBlock) (hn : 2 * (k + 1) + 1 = n' + 2) (h13 : b13 = true) : RI w wr s k n' x1 y1 x2 y2 b0 b13 true b15 v' w'' := by
  refine ⟨fun h => (by rw [h13] at h; cases h), fun _ h => (by cases h), fun _ => ⟨⟨ho, (hf.drew.alloc _).own hX hg⟩, ?_⟩, fun _ => h13, fun _ => rfl, R.c0⟩
  obtain ⟨A, c, h⟩ := own_shape ho
  rw [hn] at h
  exact ⟨A, c, h⟩
theorem RI.a15 {w wr w' : World} {s : ByteArray} {k n' x1 y1 x2 y2 : Nat} {b0 b13 b14 b15 : Bool} {x' : Value} (R : RI w wr s k n' x1 y1 x2 y2 b0 b13 b14 b15 x' w') (h : b14 = true) (h0 : b0 = true) : RI w wr s k n' x1 y1 x2 y2 b0 b13 b14 true x' w' :=
  ⟨R.r0, R.r1, R.r2, R.c14, fun _ => h, fun _ => h0⟩
theorem off_of {a b : Bool} (h : a = true → b = true) (hb : b = false) : a = false := by
  cases a with
  | false => rfl
  | true => rw [h rfl] at hb; cases hb
set_option maxRecDepth 100000 in
set_option maxHeartbeats 1000000 in
theorem rSend_any (s : ByteArray) (w : World) (h : s.size ≤ 2047) : Calls Try.prog 6 #[.string s] w (SendPost w s.data.toList) := by
  obtain ⟨i0, hi0, hz0, hz1, hz2⟩ := info3 Try.info27
  obtain ⟨N, hN⟩ : ∃ N, N = s.size := ⟨_, rfl⟩
  have hlen : s.data.toList.length = N := by rw [hN]; rfl
  rw [← hN] at h
  have HN := Lib.hid hN
  have Hlen := Lib.hid hlen
  have hsz : s.size = N := hN.symm
  have HI0 := Lib.hid (SR.start w s)
  clear hlen hN
  go_enter Try.func6, Try.ntmps6
  go_wp2_with fail
  generalize w.alloc (.cells #[.complex .f64 4613937818241073152 4613937818241073152] 27) = W0 at *
  go_loopg [4, 5] N (fun gg xv i wr => ∃ (k n' c : Nat) (A : Option Addr), k + gg = N ∧ i = .int .i64 k ∧ xv = .slice A n' c ∧ n' = 2 * k + 1 ∧ SR w s k (.slice A n' c) wr)
  case atStart => exact ⟨0, 1, 1, _, by omega, rfl, rfl, rfl, HI0.out⟩
  case round =>
    obtain ⟨k, n', c, A, hk, rfl, rfl, hn', hI⟩ := hrel
    have HI := Lib.hid hI
    have Hk := Lib.hid hk
    have Hn' := Lib.hid hn'
    by_cases hlt : k < N
    · obtain ⟨b, hb⟩ : ∃ b, s.data.toList[k]? = some b := ⟨_, List.getElem?_eq_getElem (by have := Hlen.out; omega)⟩
      have hks : k < s.size := by omega
      have c0 : s[k] = b := by have := index_at hb; rw [getElem?_pos s k hks] at this; injection this
      have hki : (k : Int) < (N : Int) := by omega
      have hbl : b.toNat < 256 := b.toNat_lt
      have Hb := Lib.hid hb
      have HP1 := Lib.hid fun W => Point_any (b.toNat / 16) W (by omega)
      have HP2 := Lib.hid fun W => Point_any (b.toNat % 16) W (by omega)
      rw [show ((b.toNat / 16 : Nat) : Int) = (b.toNat : Int) / 16 from rfl] at HP1
      rw [show ((b.toNat % 16 : Nat) : Int) = (b.toNat : Int) % 16 from rfl] at HP2
      have HE := Lib.hid (enc_two b)
      obtain ⟨x1, y1, h1⟩ : ∃ x y, cx (b.toNat / 16) = .complex .f64 x y := ⟨_, _, rfl⟩
      obtain ⟨x2, y2, h2⟩ : ∃ x y, cx (b.toNat % 16) = .complex .f64 x y := ⟨_, _, rfl⟩
      have hX0 := own_fr hI.own (((Fr.refl [] wr).drew).alloc (.cells #[.complex .f64 x1 y1, .complex .f64 x2 y2] 27)) (by simp)
      have hWs := hI.fr.size
      rw [h1] at HP1 HE
      rw [h2] at HP2 HE
      rw [← hn'] at hX0
      have hn3 : n' ≤ 4095 := by omega
      clear hI hb h1 h2 hn' hk
      --REGION
      go_wp2_with fail
      have hw1 : IntKind.u8.wrap ((b.toNat : Int) / 16) = (b.toNat : Int) / 16 := by first | exact IntWalk.u8_in _ (by omega) | (simp [IntKind.wrap]; omega)
      have hw2 : IntKind.i64.wrap ((b.toNat : Int) / 16) = (b.toNat : Int) / 16 := IntWalk.i64_in _ (by omega)
      have hw3 : (b.toNat : Int).tmod 16 = (b.toNat : Int) % 16 := Int.tmod_eq_emod_of_nonneg (by omega)
      have hw4 : IntKind.i64.wrap ((b.toNat : Int) % 16) = (b.toNat : Int) % 16 := IntWalk.i64_in _ (by omega)
      have hm : Try.prog.follows .mixedOrders = true := by kernel_rfl
      refine (wpIn_wide (n := 3)).1 ?_
      refine wpIn_region_inv hm (by kernel_rfl) (fun L' a w' => ∃ x', a = { tmps := #[.string s, undef, .slice none 0 0, .int .i64 0, bif L'.getD 15 false then x' else .slice A n' c, .int .i64 k, .string s, .int .i64 N, .bool (decide ((2047 : Int) < N)), .slice (some ⟨w.heap.size, 0, none⟩) 1 1, .int .i64 k, .string s, .int .i64 N, .bool true, u14, u15, bif L'.getD 0 false then .slice A n' c else u16, bif L'.getD 1 false then .string s else u17, bif L'.getD 2 false then .int .i64 k else u18, bif L'.getD 3 false then .int .u8 (b.toNat : Int) else u19, bif L'.getD 4 false then .int .u8 ((b.toNat : Int) / 16) else u20, bif L'.getD 5 false then .int .i64 ((b.toNat : Int) / 16) else u21, bif L'.getD 6 false then .complex .f64 x1 y1 else u22, bif L'.getD 7 false then .string s else u23, bif L'.getD 8 false then .int .i64 k else u24, bif L'.getD 9 false then .int .u8 (b.toNat : Int) else u25, bif L'.getD 10 false then .int .u8 ((b.toNat : Int) % 16) else u26, bif L'.getD 11 false then .int .i64 ((b.toNat : Int) % 16) else u27, bif L'.getD 12 false then .complex .f64 x2 y2 else u28, bif L'.getD 13 false then .slice (some ⟨wr.heap.size, 0, none⟩) 2 2 else u29, bif L'.getD 14 false then x' else u30, undef], defers := [] } ∧ RI w wr s k n' x1 y1 x2 y2 (L'.getD 0 false) (L'.getD 13 false) (L'.getD 14 false) (L'.getD 15 false) x' w') ⟨undef, rfl, (fun _ => rfl), (fun h => by cases h), (fun h => by cases h), (fun h => by cases h), (fun h => by cases h), (fun h => by cases h)⟩ ?_ ?_
      · rintro ⟨L'⟩ _ w' i o hs ho hf hp ⟨x', rfl, hR⟩
        match L', hs with
        | [b0, b1, b2, b3, b4, b5, b6, b7, b8, b9, b10, b11, b12, b13, b14, b15], _ =>
        have R : RI w wr s k n' x1 y1 x2 y2 b0 b13 b14 b15 x' w' := hR
        clear hR
        match i, ho with
        | 0, ho =>
          injection ho with ho
          subst ho
          simp [Region.binds] at hf hp
          have e15 := off_of R.c0 hf
          subst e15
          refine wpOpIn_step rfl (fun K' hK' => ?_)
          go_simp
          exact hK' _ _ ⟨x', by simp [hf, hp], R.a0⟩
        | 1, ho =>
          injection ho with ho
          subst ho
          simp [Region.binds] at hf hp
          refine wpOpIn_step rfl (fun K' hK' => ?_)
          go_simp
          exact hK' _ _ ⟨x', by simp [hf, hp, hw1, hw2, hw3, hw4], R⟩
        | 2, ho =>
          injection ho with ho
          subst ho
          simp [Region.binds] at hf hp
          refine wpOpIn_step rfl (fun K' hK' => ?_)
          go_simp
          exact hK' _ _ ⟨x', by simp [hf, hp, hw1, hw2, hw3, hw4], R⟩
        | 3, ho =>
          injection ho with ho
          subst ho
          simp [Region.binds] at hf hp
          refine wpOpIn_step rfl (fun K' hK' => ?_)
          go_simp
          exact hK' _ _ ⟨x', by simp [hf, hp, hw1, hw2, hw3, hw4], R⟩
        | 4, ho =>
          injection ho with ho
          subst ho
          simp [Region.binds] at hf hp
          refine wpOpIn_step rfl (fun K' hK' => ?_)
          go_simp
          exact hK' _ _ ⟨x', by simp [hf, hp, hw1, hw2, hw3, hw4], R⟩
        | 5, ho =>
          injection ho with ho
          subst ho
          simp [Region.binds] at hf hp
          refine wpOpIn_step rfl (fun K' hK' => ?_)
          go_simp
          exact hK' _ _ ⟨x', by simp [hf, hp, hw1, hw2, hw3, hw4], R⟩
        | 6, ho =>
          injection ho with ho
          subst ho
          simp [Region.binds] at hf hp
          refine wpOpIn_step rfl (fun K' hK' => ?_)
          go_simp
          refine ⟨trivial, (callsIn_wide.2 (HP1.out _)).mono ?_⟩
          rintro e w2 ⟨rfl, rfl⟩
          exact hK' _ _ ⟨x', by simp [hf, hp, hw1, hw2, hw3, hw4], R⟩
        | 7, ho =>
          injection ho with ho
          subst ho
          simp [Region.binds] at hf hp
          refine wpOpIn_step rfl (fun K' hK' => ?_)
          go_simp
          exact hK' _ _ ⟨x', by simp [hf, hp, hw1, hw2, hw3, hw4], R⟩
        | 8, ho =>
          injection ho with ho
          subst ho
          simp [Region.binds] at hf hp
          refine wpOpIn_step rfl (fun K' hK' => ?_)
          go_simp
          exact hK' _ _ ⟨x', by simp [hf, hp, hw1, hw2, hw3, hw4], R⟩
        | 9, ho =>
          injection ho with ho
          subst ho
          simp [Region.binds] at hf hp
          refine wpOpIn_step rfl (fun K' hK' => ?_)
          go_simp
          exact hK' _ _ ⟨x', by simp [hf, hp, hw1, hw2, hw3, hw4], R⟩
        | 10, ho =>
          injection ho with ho
          subst ho
          simp [Region.binds] at hf hp
          refine wpOpIn_step rfl (fun K' hK' => ?_)
          go_simp
          exact hK' _ _ ⟨x', by simp [hf, hp, hw1, hw2, hw3, hw4], R⟩
        | 11, ho =>
          injection ho with ho
          subst ho
          simp [Region.binds] at hf hp
          refine wpOpIn_step rfl (fun K' hK' => ?_)
          go_simp
          exact hK' _ _ ⟨x', by simp [hf, hp, hw1, hw2, hw3, hw4], R⟩
        | 12, ho =>
          injection ho with ho
          subst ho
          simp [Region.binds] at hf hp
          refine wpOpIn_step rfl (fun K' hK' => ?_)
          go_simp
          refine ⟨trivial, (callsIn_wide.2 (HP2.out _)).mono ?_⟩
          rintro e w2 ⟨rfl, rfl⟩
          exact hK' _ _ ⟨x', by simp [hf, hp, hw1, hw2, hw3, hw4], R⟩
        | 13, ho =>
          injection ho with ho
          subst ho
          simp [Region.binds] at hf hp
          have e14 := off_of R.c14 hf
          have ew := R.r0 hf
          subst ew
          subst e14
          obtain ⟨k6, k12⟩ : b6 = true ∧ b12 = true := by simp [hp]
          refine wpOpIn_step rfl (fun K' hK' => ?_)
          go_simp
          exact hK' _ _ ⟨x', by simp [hf, hp], R.a13⟩
        | 14, ho =>
          injection ho with ho
          subst ho
          simp [Region.binds] at hf hp
          obtain ⟨k0, k13⟩ : b0 = true ∧ b13 = true := by simp [hp]
          have e15 := off_of R.c15 hf
          subst e15
          have ew := R.r1 k13 hf
          subst ew
          refine wpOpIn_step rfl (fun K' hK' => ?_)
          rw [if_pos (by simp [Region.wanted])]
          refine wpIn_append (o := _) (hop := rfl) (s := .tmp 16) (x := .tmp 29) (t := 22) w.heap.size 27 i0 (.complex .f64 0 0) 1 16 Try.underlying22 hi0 hz0 hz1 hz2 rfl (by decide) _ n' _ (by first | (simp [Act.eval, k0]; done) | (simp [Act.eval, k0]; rfl)) hX0 ⟨wr.heap.size, 0, none⟩ 2 2 [.complex .f64 x1 y1, .complex .f64 x2 y2] (by first | (simp [Act.eval, k13]; done) | (simp [Act.eval, k13]; rfl)) rfl (news2 (by simp [go_sem]) (by simp [go_sem])) (by simp [Value.oneCell']) (by simp only [maxLen]; omega) (by omega) (by simp; omega) ?_
          intro v' w'' ho' hg' hnn
          exact hK' _ _ ⟨v', by simp [hf, hp, Act.put], R.a14 HI.out.fr hX0 (by rw [row_take Hb.out, enc_app, HE.out, show 2 * (k + 1) + 1 = n' + 2 from by have := Hn'.out; omega]; exact ho') hg' (by have := Hn'.out; omega) k13⟩
        | 15, ho =>
          injection ho with ho
          subst ho
          simp [Region.binds] at hf hp
          refine wpOpIn_step rfl (fun K' hK' => ?_)
          go_simp
          exact hK' _ _ ⟨x', by simp [hf, hp], R.a15 (by simp [hp]) (by simp [hp])⟩
        | i + 16, ho => simp at ho
      · rintro _ w' ⟨x', rfl, hR⟩
        have R : RI w wr s k n' x1 y1 x2 y2 true true true true x' w' := hR
        obtain ⟨hS, A2, c2, rfl⟩ := R.r2 rfl
        clear hR R
        go_wp2
        go_roundg (N - (k + 1))
        case measure => have := Hk.out; omega
        case rel => exact ⟨k + 1, n' + 2, _, _, by have := Hk.out; omega, by go_num, rfl, by have := Hn'.out; omega, hS⟩
    · have hkN : k = N := by omega
      subst hkN
      clear hk hlt hn' hI
      go_wp2_with fail
      go_ret2
      have hI := HI.out
      have hl := Hlen.out
      refine ⟨_, rfl, ?_, hI.fr⟩
      have := hI.own
      rw [List.take_of_length_le (by omega)] at this
      rw [hl]
      exact this
end Go.Proofs.Ytjnefafkpaopaaa

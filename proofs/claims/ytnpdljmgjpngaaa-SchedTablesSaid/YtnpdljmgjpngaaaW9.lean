/- Next: the program's, whole. (Printed by gen9.py.) -/
import Derived.Test.YtnpdljmgjpngaaaW8
namespace Go.Proofs.Ytnpdljmgjpngaaa
open Go.RowKit Go.Shelf
attribute [local go_sem] Oper.semAt_some
set_option linter.unusedVariables false
set_option linter.unusedSimpArgs false

set_option maxHeartbeats 1000000 in
theorem next_no (A : Option Addr) (n cap : Nat) (l : List Win) (w : World) (K I t : Int) (h : WinsIn w (.slice A n cap) l) (hn : n ≤ 4611686018427387904) (hok : okL l = false) :
    Calls Try.prog 16 #[.slice A n cap, .int .i64 K, .int .i64 I, .int .i64 t] w fun e w' => e = .returned (.tuple #[.int .i64 0, .int .i64 130]) ∧ Fr [] w w' := by
  have Hc := Lib.hid fun w h => check_no A n cap l w h hn hok
  have H := Lib.hid h
  clear h hok
  have hf0 : Fr [] w (((((w.alloc (.cells #[.int .i64 K] 3)).alloc (.cells #[.int .i64 I] 3)).alloc (.cells #[.int .i64 t] 3)).alloc (.cells #[.int .i64 0] 3)).alloc (.cells #[.int .i64 0] 25)) := (((((Fr.refl _ _).alloc _).alloc _).alloc _).alloc _).alloc _
  have b8 := (Blk.new (((w.alloc (.cells #[.int .i64 K] 3)).alloc (.cells #[.int .i64 I] 3)).alloc (.cells #[.int .i64 t] 3)) 3 #[.int .i64 0]).alloc (.cells #[.int .i64 0] 25)
  have b9 := Blk.new ((((w.alloc (.cells #[.int .i64 K] 3)).alloc (.cells #[.int .i64 I] 3)).alloc (.cells #[.int .i64 t] 3)).alloc (.cells #[.int .i64 0] 3)) 25 #[.int .i64 0]
  simp only [World.size_alloc] at b8 b9
  go_enter Try.func16, Try.ntmps16
  go_wp2
  go_step3
  go_wp2_with (go_at_call 10; go_must ((with_reducible refine (Hc.out _ (H.out.fr hf0)).mono ?_); rintro e w1 ⟨rfl, hf1⟩; have c8 := b8.fr hf1 (by simp); have c9 := b9.fr hf1 (by simp); have e8 := c8.cell 0; have e9 := c9.cell 0; have f8 := c8.frozen 0; have f9 := c9.frozen 0; simp at e8 e9))
  rw [Exit.noGoto_ret]
  have d8 := (c8.set_ 0 (.int .i64 0)).far (p := ⟨w.heap.size + 1 + 1 + 1 + 1, 0, none⟩) (by show w.heap.size + 1 + 1 + 1 ≠ w.heap.size + 1 + 1 + 1 + 1; omega) (.int .i64 130)
  have d9 := (c9.far (p := ⟨w.heap.size + 1 + 1 + 1, 0, none⟩) (by show w.heap.size + 1 + 1 + 1 + 1 ≠ w.heap.size + 1 + 1 + 1; omega) (.int .i64 0)).set_ 0 (.int .i64 130)
  have g8 := d8.cell 0
  have g9 := d9.cell 0
  simp at g8 g9
  have hf3 : Fr [] w ((w1.setCell ⟨w.heap.size + 1 + 1 + 1, 0, none⟩ (.int .i64 0)).setCell ⟨w.heap.size + 1 + 1 + 1 + 1, 0, none⟩ (.int .i64 130)) := ((hf0.trans hf1).setCell (.inr (by show w.heap.size ≤ w.heap.size + 1 + 1 + 1; omega)) _).setCell (.inr (by show w.heap.size ≤ w.heap.size + 1 + 1 + 1 + 1; omega)) _
  generalize (w1.setCell ⟨w.heap.size + 1 + 1 + 1, 0, none⟩ (.int .i64 0)).setCell ⟨w.heap.size + 1 + 1 + 1 + 1, 0, none⟩ (.int .i64 130) = W3 at *
  exact bodyPost_ret (v := .tuple #[.int .i64 0, .int .i64 130]) (by simp [results, Try.results16, go_sem, g8, g9]) rfl ⟨rfl, hf3⟩

set_option maxHeartbeats 1000000 in
theorem next_arg (A : Option Addr) (n cap : Nat) (l : List Win) (w : World) (K I t : Int) (h : WinsIn w (.slice A n cap) l) (hn : n ≤ 4611686018427387904) (hok : okL l = true) (ht : t < 0 ∨ 1099511627776 < t) :
    Calls Try.prog 16 #[.slice A n cap, .int .i64 K, .int .i64 I, .int .i64 t] w fun e w' => e = .returned (.tuple #[.int .i64 0, .int .i64 1]) ∧ Fr [] w w' := by
  have Hc := Lib.hid fun w h => check_ok A n cap l w h hn hok
  have H := Lib.hid h
  have Ht := Lib.hid ht
  clear h hok ht
  have hf0 : Fr [] w (((((w.alloc (.cells #[.int .i64 K] 3)).alloc (.cells #[.int .i64 I] 3)).alloc (.cells #[.int .i64 t] 3)).alloc (.cells #[.int .i64 0] 3)).alloc (.cells #[.int .i64 0] 25)) := (((((Fr.refl _ _).alloc _).alloc _).alloc _).alloc _).alloc _
  have b7 := ((Blk.new ((w.alloc (.cells #[.int .i64 K] 3)).alloc (.cells #[.int .i64 I] 3)) 3 #[.int .i64 t]).alloc (.cells #[.int .i64 0] 3)).alloc (.cells #[.int .i64 0] 25)
  have b8 := (Blk.new (((w.alloc (.cells #[.int .i64 K] 3)).alloc (.cells #[.int .i64 I] 3)).alloc (.cells #[.int .i64 t] 3)) 3 #[.int .i64 0]).alloc (.cells #[.int .i64 0] 25)
  have b9 := Blk.new ((((w.alloc (.cells #[.int .i64 K] 3)).alloc (.cells #[.int .i64 I] 3)).alloc (.cells #[.int .i64 t] 3)).alloc (.cells #[.int .i64 0] 3)) 25 #[.int .i64 0]
  simp only [World.size_alloc] at b7 b8 b9
  go_enter Try.func16, Try.ntmps16
  go_wp2
  go_step3
  go_wp2_with (first
    | (go_at_call 10; go_must ((with_reducible refine (Hc.out _ (H.out.fr hf0)).mono ?_); rintro e w1 ⟨rfl, hf1⟩; have c7 := b7.fr hf1 (by simp); have c8 := b8.fr hf1 (by simp); have c9 := b9.fr hf1 (by simp); have e7 := c7.cell 0; have e8 := c8.cell 0; have e9 := c9.cell 0; have f8 := c8.frozen 0; have f9 := c9.frozen 0; simp at e7 e8 e9))
    | (go_at_call 38; go_must ((with_reducible refine (tick_no _ _ Ht.out).mono ?_); rintro e w2 ⟨rfl, rfl⟩)))
  rw [Exit.noGoto_ret]
  have d8 := (c8.set_ 0 (.int .i64 0)).far (p := ⟨w.heap.size + 1 + 1 + 1 + 1, 0, none⟩) (by show w.heap.size + 1 + 1 + 1 ≠ w.heap.size + 1 + 1 + 1 + 1; omega) (.int .i64 1)
  have d9 := (c9.far (p := ⟨w.heap.size + 1 + 1 + 1, 0, none⟩) (by show w.heap.size + 1 + 1 + 1 + 1 ≠ w.heap.size + 1 + 1 + 1; omega) (.int .i64 0)).set_ 0 (.int .i64 1)
  have g8 := d8.cell 0
  have g9 := d9.cell 0
  simp at g8 g9
  have hf3 : Fr [] w ((w1.setCell ⟨w.heap.size + 1 + 1 + 1, 0, none⟩ (.int .i64 0)).setCell ⟨w.heap.size + 1 + 1 + 1 + 1, 0, none⟩ (.int .i64 1)) := ((hf0.trans hf1).setCell (.inr (by show w.heap.size ≤ w.heap.size + 1 + 1 + 1; omega)) _).setCell (.inr (by show w.heap.size ≤ w.heap.size + 1 + 1 + 1 + 1; omega)) _
  generalize (w1.setCell ⟨w.heap.size + 1 + 1 + 1, 0, none⟩ (.int .i64 0)).setCell ⟨w.heap.size + 1 + 1 + 1 + 1, 0, none⟩ (.int .i64 1) = W3 at *
  exact bodyPost_ret (v := .tuple #[.int .i64 0, .int .i64 1]) (by simp [results, Try.results16, go_sem, g8, g9]) rfl ⟨rfl, hf3⟩

set_option maxRecDepth 100000 in
set_option maxHeartbeats 4000000 in
theorem next_ok (A : Option Addr) (n cap : Nat) (l : List Win) (w : World) (K I t : Int) (h : WinsIn w (.slice A n cap) l) (hn : n ≤ 4611686018427387904) (hok : okL l = true) (h1 : 0 ≤ t) (h2 : t ≤ 1099511627776) :
    Calls Try.prog 16 #[.slice A n cap, .int .i64 K, .int .i64 I, .int .i64 t] w (NxPost w l K I t) := by
  have Hc := Lib.hid fun w h => check_ok A n cap l w h hn hok
  have Hl := Lib.hid fun w h => length_ok A n cap l w h hok
  have hL := tot_bd hok l.length (Nat.le_refl _)
  have hl := okL_len hok
  have H := Lib.hid h
  clear h
  have hL0 : 0 < tot l l.length := by omega
  have hL1 : tot l l.length ≤ 16320 := by omega
  have f1 := fun pre x => next_first (l := l) (hok := hok) (K := K) (I := I) (t := t) (pre := pre) (x := x)
  have f2 := fun pre x => next_second (l := l) (hok := hok) (K := K) (I := I) (t := t) (pre := pre) (x := x)
  have f3 := next_none (l := l) (hok := hok) (K := K) (I := I) (t := t)
  have HL : ∃ L, tot l l.length = L := ⟨_, rfl⟩
  obtain ⟨L, hLL⟩ := HL
  rw [hLL] at hL0 hL1 Hl f1 f2 f3
  have HLL := Lib.hid hLL
  have F1 := Lib.hid f1
  have F2 := Lib.hid f2
  have F3 := Lib.hid f3
  clear hLL hL f1 f2 f3
  have r0 := Int.emod_nonneg t (by omega : L ≠ 0)
  have r1 := Int.emod_lt_of_pos t hL0
  have r2 : t % L ≤ t := by
    have q1 := Int.ediv_nonneg h1 (show 0 ≤ L by omega)
    have q2 := Int.emod_add_mul_ediv t L
    have q3 := Int.mul_nonneg (show 0 ≤ L by omega) q1
    omega
  have hf0 : Fr [] w (((((w.alloc (.cells #[.int .i64 K] 3)).alloc (.cells #[.int .i64 I] 3)).alloc (.cells #[.int .i64 t] 3)).alloc (.cells #[.int .i64 0] 3)).alloc (.cells #[.int .i64 0] 25)) := (((((Fr.refl _ _).alloc _).alloc _).alloc _).alloc _).alloc _
  have bK := ((((Blk.new w 3 #[.int .i64 K]).alloc (.cells #[.int .i64 I] 3)).alloc (.cells #[.int .i64 t] 3)).alloc (.cells #[.int .i64 0] 3)).alloc (.cells #[.int .i64 0] 25)
  have bI := (((Blk.new (w.alloc (.cells #[.int .i64 K] 3)) 3 #[.int .i64 I]).alloc (.cells #[.int .i64 t] 3)).alloc (.cells #[.int .i64 0] 3)).alloc (.cells #[.int .i64 0] 25)
  have bT := ((Blk.new ((w.alloc (.cells #[.int .i64 K] 3)).alloc (.cells #[.int .i64 I] 3)) 3 #[.int .i64 t]).alloc (.cells #[.int .i64 0] 3)).alloc (.cells #[.int .i64 0] 25)
  have b8 := (Blk.new (((w.alloc (.cells #[.int .i64 K] 3)).alloc (.cells #[.int .i64 I] 3)).alloc (.cells #[.int .i64 t] 3)) 3 #[.int .i64 0]).alloc (.cells #[.int .i64 0] 25)
  have b9 := Blk.new ((((w.alloc (.cells #[.int .i64 K] 3)).alloc (.cells #[.int .i64 I] 3)).alloc (.cells #[.int .i64 t] 3)).alloc (.cells #[.int .i64 0] 3)) 25 #[.int .i64 0]
  simp only [World.size_alloc] at bI bT b8 b9
  have HX := Lib.hid (And.intro bK (And.intro bI (And.intro bT (And.intro b8 b9))))
  clear bK bI bT b8 b9
  refine (callsIn_wide (n := 3)).1 ?_
  refine callsIn_of_wp_marks Try.func16 rfl trivial (wpIn_wide.2 ?_)
  simp only [Try.ntmps16, List.size_toArray, List.length_cons, List.length_nil, Nat.reduceAdd, Nat.reduceSub, Array.replicate_succ, Array.replicate_zero, List.push_toArray, List.append_toArray, List.nil_append, List.cons_append]
  go_wp2
  refine wp_scope_jumps 0 (fun a W => ∃ pB, NxA w (w.heap.size) (w.heap.size + 1) (w.heap.size + 1 + 1) (w.heap.size + 1 + 1 + 1) (w.heap.size + 1 + 1 + 1 + 1) pB ∧ NxJ w A n cap K I t (w.heap.size) (w.heap.size + 1) (w.heap.size + 1 + 1) (w.heap.size + 1 + 1 + 1) (w.heap.size + 1 + 1 + 1 + 1) pB 1 (t - t % L + L) a W ∧ NoHits K I (t - t % L) t (spL l hok)) (fun _ _ => 0) rfl ?first ?pass
  case pass =>
    rintro a W ⟨pB, ha, hJ, hno⟩
    refine wp_seq (wp_skip ?_)
    refine next_pass (c0 := _) (c := _) rfl rfl _ A n cap l w W K I t (t - t % L + L) 1 _ _ _ _ _ pB H.out hok h1 h2 (by omega) (by omega) ha a hJ (.inr rfl) ?_ ?_ ?_
    · intro a W' pre x p1 p2 p3 he
      exact he.leave (fun W'' hfr => ⟨_, _, rfl, .inl ⟨rfl, F2.out pre x hno p1 p2 p3⟩, hfr⟩)
    · intro a W' _ p1 he
      exact he.leave (fun W'' hfr => ⟨_, _, rfl, .inr ⟨rfl, rfl, F3.out p1⟩, hfr⟩)
    · intro a W' h; cases h
  case first =>
    go_wp2_with (first
      | (go_at_call 10; go_must ((with_reducible refine (Hc.out _ (H.out.fr hf0)).mono ?_); rintro e w1 ⟨rfl, hf1⟩; have bT := HX.out.2.2.1.fr hf1 (by simp); have eT := bT.cell 0; simp at eT))
      | (go_at_call 38; go_must ((with_reducible refine (tick_yes _ _ h1 h2).mono ?_); rintro e w2 ⟨rfl, rfl⟩))
      | fail)
    have hwr : IntKind.i64.wrap (t - t % L) = t - t % L := IntWalk.i64_in _ (by omega)
    have hLne : ¬ L = 0 := by omega
    have hmod : t.tmod L = t % L := Int.tmod_eq_emod_of_nonneg h1
    have hm : Try.prog.follows .mixedOrders = true := by kernel_rfl
    have hz1 := bT.lt
    have hz2 := (HX.out.2.2.2.2.fr hf1 (by simp)).lt
    refine (wpIn_wide (n := 3)).1 ?_
    refine wpIn_region_inv hm (by kernel_rfl) (fun L' a w' => ∃ pB, a = { tmps := #[.slice A n cap, .int .i64 K, .int .i64 I, .int .i64 t, undef, .pointer (some ⟨w.heap.size, 0, none⟩), .pointer (some ⟨w.heap.size + 1, 0, none⟩), .pointer (some ⟨w.heap.size + 1 + 1, 0, none⟩), .pointer (some ⟨w.heap.size + 1 + 1 + 1, 0, none⟩), .pointer (some ⟨w.heap.size + 1 + 1 + 1 + 1, 0, none⟩), .int .i64 0, bif L'.getD 6 false then .pointer (some ⟨pB, 0, none⟩) else undef, bif L'.getD 8 false then .int .i64 0 else undef, undef, .slice A n cap, .int .i64 0, .int .i64 0, .bool false, undef, .int .i64 t, .bool true, .bool false, bif L'.getD 0 false then .int .i64 t else undef, bif L'.getD 1 false then .int .i64 t else undef, bif L'.getD 2 false then .slice A n cap else undef, bif L'.getD 3 false then .int .i64 L else undef, bif L'.getD 4 false then .int .i64 (t % L) else undef, bif L'.getD 5 false then .int .i64 (t - t % L) else undef, undef, undef, undef, undef, undef, undef, undef, undef, undef, undef, undef, undef, undef, undef, undef, undef, undef, undef, undef, undef, undef, undef, undef, undef, undef, undef, undef, undef, undef, undef, undef, undef, undef], defers := [] } ∧ Fr [] w1 w' ∧ (L'.getD 7 false = true → L'.getD 6 false = true) ∧ (L'.getD 6 false = true → NxA w (w.heap.size) (w.heap.size + 1) (w.heap.size + 1 + 1) (w.heap.size + 1 + 1 + 1) (w.heap.size + 1 + 1 + 1 + 1) pB ∧ w1.heap.size ≤ pB ∧ Blk w' pB 3 #[.int .i64 (bif L'.getD 7 false then t - t % L else 0)])) ⟨0, rfl, (Fr.refl _ _).drew, (fun h => by cases h), (fun h => by cases h)⟩ ?_ ?_
    · rintro ⟨L'⟩ _ w' i o hs ho hf hp ⟨pB, rfl, hw', hcl, h6⟩
      match L', hs with
      | [b0, b1, b2, b3, b4, b5, b6, b7, b8], _ =>
      replace hcl : b7 = true → b6 = true := hcl
      replace h6 : b6 = true → NxA w (w.heap.size) (w.heap.size + 1) (w.heap.size + 1 + 1) (w.heap.size + 1 + 1 + 1) (w.heap.size + 1 + 1 + 1 + 1) pB ∧ w1.heap.size ≤ pB ∧ Blk w' pB 3 #[.int .i64 (bif b7 then t - t % L else 0)] := h6
      have H6 := Lib.hid h6
      clear h6
      have bT' := bT.fr hw' (by simp)
      have et := bT'.cell 0
      have hz3 := hw'.size
      simp at et
      match i, ho with
      | 0, ho =>
        injection ho with ho
        subst ho
        simp [Region.binds] at hf hp
        refine wpOpIn_step rfl (fun K' hK' => ?_)
        go_simp
        exact hK' _ _ ⟨pB, by simp [hf, hp], hw', hcl, H6.out⟩
      | 1, ho =>
        injection ho with ho
        subst ho
        simp [Region.binds] at hf hp
        refine wpOpIn_step rfl (fun K' hK' => ?_)
        go_simp
        exact hK' _ _ ⟨pB, by simp [hf, hp], hw', hcl, H6.out⟩
      | 2, ho =>
        injection ho with ho
        subst ho
        simp [Region.binds] at hf hp
        refine wpOpIn_step rfl (fun K' hK' => ?_)
        go_simp
        exact hK' _ _ ⟨pB, by simp [hf, hp], hw', hcl, H6.out⟩
      | 3, ho =>
        injection ho with ho
        subst ho
        simp [Region.binds] at hf hp
        refine wpOpIn_step rfl (fun K' hK' => ?_)
        go_simp
        refine ⟨trivial, (callsIn_wide.2 (Hl.out _ (H.out.fr ((hf0.trans hf1).trans hw')))).mono ?_⟩
        rintro e w2 ⟨rfl, hf2⟩
        exact hK' _ _ ⟨pB, by simp [hf, hp], hw'.trans hf2, hcl, fun hb => ⟨(H6.out hb).1, (H6.out hb).2.1, (H6.out hb).2.2.fr hf2 (by simp)⟩⟩
      | 4, ho =>
        injection ho with ho
        subst ho
        simp [Region.binds] at hf hp
        refine wpOpIn_step rfl (fun K' hK' => ?_)
        go_simp
        exact hK' _ _ ⟨pB, by simp [hf, hp], hw', hcl, H6.out⟩
      | 5, ho =>
        injection ho with ho
        subst ho
        simp [Region.binds] at hf hp
        refine wpOpIn_step rfl (fun K' hK' => ?_)
        go_simp
        exact hK' _ _ ⟨pB, by simp [hf, hp], hw', hcl, H6.out⟩
      | 6, ho =>
        injection ho with ho
        subst ho
        simp [Region.binds] at hf hp
        have h7 : b7 = false := by
          cases hb : b7 with
          | false => rfl
          | true => rw [hcl hb] at hf; cases hf
        subst h7
        refine wpOpIn_step rfl (fun K' hK' => ?_)
        go_simp
        exact hK' _ _ ⟨w'.heap.size, by simp [hf, hp], hw'.alloc _, (fun h => by cases h), fun _ => ⟨⟨by omega, by omega, by omega, by omega, by omega, by omega, by omega, by omega, by omega⟩, hz3, Blk.new w' 3 #[.int .i64 0]⟩⟩
      | 7, ho =>
        injection ho with ho
        subst ho
        simp [Region.binds] at hf hp
        have h6t : b6 = true := by simp [hp]
        obtain ⟨ha, hpB, hb⟩ := H6.out h6t
        subst hf
        have eb := hb.cell 0
        have fb := hb.frozen 0
        simp at eb
        have Ha := Lib.hid ha
        clear ha
        refine wpOpIn_step rfl (fun K' hK' => ?_)
        go_simp
        exact hK' _ _ ⟨pB, by simp [hp], hw'.setCell (.inr hpB) _, (fun _ => by simp [hp]), fun _ => ⟨Ha.out, hpB, hb.set_ 0 _⟩⟩
      | 8, ho =>
        injection ho with ho
        subst ho
        simp [Region.binds] at hf hp
        refine wpOpIn_step rfl (fun K' hK' => ?_)
        go_simp
        exact hK' _ _ ⟨pB, by simp [hf, hp], hw', hcl, H6.out⟩
      | i + 9, ho => simp at ho
    · rintro _ w' ⟨pB, rfl, hw', -, h6⟩
      obtain ⟨ha, -, hb⟩ := h6 rfl
      have Ha := Lib.hid ha
      have hb' : Blk w' pB 3 #[.int .i64 (t - t % L)] := hb
      have hNW : NxW w K I t (t - t % L) (w.heap.size) (w.heap.size + 1) (w.heap.size + 1 + 1) (w.heap.size + 1 + 1 + 1) (w.heap.size + 1 + 1 + 1 + 1) pB [] w' :=
        ⟨(hf0.trans hf1).trans hw', (HX.out.1.fr hf1 (by simp)).fr hw' (by simp), (HX.out.2.1.fr hf1 (by simp)).fr hw' (by simp), (HX.out.2.2.1.fr hf1 (by simp)).fr hw' (by simp), (HX.out.2.2.2.1.fr hf1 (by simp)).fr hw' (by simp), (HX.out.2.2.2.2.fr hf1 (by simp)).fr hw' (by simp), hb', fun D hD => by cases hD⟩
      clear ha h6 hb hb'
      go_wp2
      go_step3
      rename_i hK1
      refine hK1 _ _ ?_
      refine next_pass (c0 := _) (c := _) rfl rfl _ A n cap l w w' K I t (t - t % L) 0 _ _ _ _ _ pB H.out hok h1 h2 (by omega) (by omega) Ha.out _ ?_ (.inl rfl) ?_ ?_ ?_
      · exact ⟨[], _, _, _, _, _, _, _, _, _, _, _, _, _, _, _, _, _, _, _, _, _, _, _, _, _, _, _, _, _, _, _, _, _, _, _, _, _, _, _, _, _, _, _, _, _, _, _, _, rfl, hNW, List.nodup_nil⟩
      · intro a W' pre x p1 p2 p3 he
        exact he.leave (fun W'' hfr => ⟨_, _, rfl, .inl ⟨rfl, F1.out pre x p1 p2 p3⟩, hfr⟩)
      · intro a W' h; cases h
      · intro a W' _ p1 hJ
        rw [HLL.out] at hJ
        exact ⟨rfl, pB, Ha.out, hJ, p1⟩
end Go.Proofs.Ytnpdljmgjpngaaa

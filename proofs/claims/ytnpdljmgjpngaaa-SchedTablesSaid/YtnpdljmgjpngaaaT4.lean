/- Tables: Copy of the reference. (Printed by genT4.py.) -/
import Derived.Test.YtnpdljmgjpngaaaT3
namespace Go.Proofs.Ytnpdljmgjpngaaa
open Go.RowKit
set_option linter.unusedVariables false
set_option linter.unusedSimpArgs false

theorem wpIn_append {F : Fence} {n : Nat} {P : Program} {w : World} {o : Oper} {a : Act} {K : Act → World → Prop} {Q : Exit → Act → World → Prop}
    (s x : Operand) (t : TypeId) (hop : o.op = Op.call { callee := Callee.builtin Builtin.append, args := #[s, x], argTypes := #[t, t] })
    (base : Nat) (e : TypeId) (i : TypeInfo) (z : Value) (size bytes : Nat) (h1 : P.underlying t = some (.slice e)) (h2 : P.info? e = some i) (h3 : i.zero = some z) (h4 : i.size = size) (h5 : i.bytes = bytes) (h6 : z.cells.size = size) (h7 : 0 < size)
    (v : Value) (k : Nat) (xs : List Value) (hs : a.eval s = v) (hown : w.ownsRow base e size v k xs) (ad : Addr) (m c : Nat) (news : List Value) (hx : a.eval x = .slice (some ad) m c) (hn : news.length = m * size)
    (hc : ∀ j u, news[j]? = some u → w.cell? (ad.add j) = some u) (h1c : ∀ u ∈ news, u.oneCell' = true) (b1 : k + m ≤ maxLen) (b2 : (k + m) * bytes ≤ 140737488355328) (b3 : base ≤ w.heap.size)
    (hK : ∀ v' w', w'.ownsRow base e size v' (k + m) (xs ++ news) → w.grownBy w' v.ownBlock → (v' = .slice none 0 0 ↔ v = .slice none 0 0 ∧ m = 0) → K (a.put o.dst v') w') :
    Oper.wpIn F n P o a w K Q := by
  obtain ⟨v', w', hrun, r1, r2, r3⟩ := run_append_own (P := P) w base t o.type e i z size bytes h1 h2 h3 h4 h5 h6 h7 v k xs hown ad m c news hn hc h1c b1 b2 b3
  unfold Oper.wpIn
  refine ⟨?_, ?_⟩
  · simp [Oper.about, hop, resolve, Target.leads, Sem.run_pure]
  · rw [Oper.semAt_plain F _ _ (by rw [hop]; intro c hc'; cases hc')]
    simp [execOp, hop, resolve, invoke, builtin, hs, hx, hrun, Result.andThen]
    exact hK v' w' r1 r2 r3

structure CI (w w' : World) (b0 b5 b6 b11 b12 b13 b14 : Bool) (x y z : Nat) (v1 v2 : Value) (n : Nat) (bs is : List Value) : Prop where
  fr : Fr [] w w'
  r0 : b0 = true → b5 = false → w'.ownsRow w.heap.size 4 1 (.slice (some ⟨x, 0, none⟩) 0 0) 0 []
  r5 : b5 = true → w'.ownsRow w.heap.size 4 1 v1 n bs ∧ v1 ≠ .slice none 0 0
  r6 : b6 = true → b11 = false → w'.ownsRow w.heap.size 3 1 (.slice (some ⟨y, 0, none⟩) 0 0) 0 []
  r11 : b11 = true → w'.ownsRow w.heap.size 3 1 v2 n is ∧ v2 ≠ .slice none 0 0
  r13 : b13 = true → Blk w' z 85 #[v1, v2] ∧ w.heap.size ≤ z
  c12 : b12 = true → b5 = true ∧ b11 = true
  c13 : b13 = true → b12 = true
  c14 : b14 = true → b13 = true
section
variable {w w' w'' : World} {b0 b5 b6 b11 b12 b13 b14 : Bool} {x y z n : Nat} {v1 v2 v' : Value} {bs is : List Value}
theorem off_of {a b : Bool} (h : a = true → b = true) (hb : b = false) : a = false := by
  cases a with
  | false => rfl
  | true => rw [h rfl] at hb; cases hb
theorem own_new (w' : World) (base : Nat) (e : TypeId) (hb : base ≤ w'.heap.size) : (w'.alloc (.cells #[] e)).ownsRow base e 1 (.slice (some ⟨w'.heap.size, 0, none⟩) 0 0) 0 [] := World.ownsRow_made w' #[] 0 hb (by simp [maxLen]) (by simp)
theorem CI.a0 (C : CI w w' b0 b5 b6 b11 b12 b13 b14 x y z v1 v2 n bs is) (hf : b0 = false) : CI w (w'.alloc (.cells #[] 4)) true b5 b6 b11 b12 b13 b14 w'.heap.size y z v1 v2 n bs is :=
  have hf' := (Fr.refl [] w').alloc (.cells #[] 4)
  ⟨C.fr.alloc _, fun _ _ => own_new w' _ 4 C.fr.size, fun h => ⟨own_fr (C.r5 h).1 hf' (by simp), (C.r5 h).2⟩, fun h h' => own_fr (C.r6 h h') hf' (by simp), fun h => ⟨own_fr (C.r11 h).1 hf' (by simp), (C.r11 h).2⟩, fun h => ⟨(C.r13 h).1.alloc _, (C.r13 h).2⟩, C.c12, C.c13, C.c14⟩
theorem CI.a6 (C : CI w w' b0 b5 b6 b11 b12 b13 b14 x y z v1 v2 n bs is) (hf : b6 = false) : CI w (w'.alloc (.cells #[] 3)) b0 b5 true b11 b12 b13 b14 x w'.heap.size z v1 v2 n bs is :=
  have hf' := (Fr.refl [] w').alloc (.cells #[] 3)
  ⟨C.fr.alloc _, fun h h' => own_fr (C.r0 h h') hf' (by simp), fun h => ⟨own_fr (C.r5 h).1 hf' (by simp), (C.r5 h).2⟩, fun _ _ => own_new w' _ 3 C.fr.size, fun h => ⟨own_fr (C.r11 h).1 hf' (by simp), (C.r11 h).2⟩, fun h => ⟨(C.r13 h).1.alloc _, (C.r13 h).2⟩, C.c12, C.c13, C.c14⟩
theorem CI.a5 (C : CI w w' b0 b5 b6 b11 b12 b13 b14 x y z v1 v2 n bs is) (hf : b5 = false) (h0 : w'.ownsRow w.heap.size 4 1 (.slice (some ⟨x, 0, none⟩) 0 0) 0 []) (ho : w''.ownsRow w.heap.size 4 1 v' n bs) (hg : w'.grownBy w'' (Value.ownBlock (.slice (some ⟨x, 0, none⟩) 0 0))) (hv : v' ≠ .slice none 0 0) : CI w w'' b0 true b6 b11 b12 b13 b14 x y z v' v2 n bs is := by
  have e12 := off_of (fun h => (C.c12 h).1) hf
  have e13 := off_of C.c13 e12
  have e14 := off_of C.c14 e13
  subst e12; subst e13; subst e14
  have hfo := Fr.of_own hg
  have hn3 : ∀ k, k ∈ (Value.ownBlock (.slice (some ⟨x, 0, none⟩) 0 0)).toList → ∀ cs, ¬ Blk w' k 3 cs := fun k hk cs hc => by
    obtain ⟨_, cs', hb⟩ := own_blk h0 k hk
    have := (hb.eq hc).1
    simp at this
  exact ⟨C.fr.own h0 hg, fun _ h => by simp at h, fun _ => ⟨ho, hv⟩, fun h h' => own_fr (C.r6 h h') hfo hn3, fun h => ⟨own_fr (C.r11 h).1 hfo hn3, (C.r11 h).2⟩, fun h => by simp at h, fun h => by simp at h, fun h => by simp at h, fun h => by simp at h⟩
theorem CI.a11 (C : CI w w' b0 b5 b6 b11 b12 b13 b14 x y z v1 v2 n bs is) (hf : b11 = false) (h0 : w'.ownsRow w.heap.size 3 1 (.slice (some ⟨y, 0, none⟩) 0 0) 0 []) (ho : w''.ownsRow w.heap.size 3 1 v' n is) (hg : w'.grownBy w'' (Value.ownBlock (.slice (some ⟨y, 0, none⟩) 0 0))) (hv : v' ≠ .slice none 0 0) : CI w w'' b0 b5 b6 true b12 b13 b14 x y z v1 v' n bs is := by
  have e12 := off_of (fun h => (C.c12 h).2) hf
  have e13 := off_of C.c13 e12
  have e14 := off_of C.c14 e13
  subst e12; subst e13; subst e14
  have hfo := Fr.of_own hg
  have hn3 : ∀ k, k ∈ (Value.ownBlock (.slice (some ⟨y, 0, none⟩) 0 0)).toList → ∀ cs, ¬ Blk w' k 4 cs := fun k hk cs hc => by
    obtain ⟨_, cs', hb⟩ := own_blk h0 k hk
    have := (hb.eq hc).1
    simp at this
  exact ⟨C.fr.own h0 hg, fun h h' => own_fr (C.r0 h h') hfo hn3, fun h => ⟨own_fr (C.r5 h).1 hfo hn3, (C.r5 h).2⟩, fun _ h => by simp at h, fun _ => ⟨ho, hv⟩, fun h => by simp at h, fun h => by simp at h, fun h => by simp at h, fun h => by simp at h⟩
theorem CI.a12 (C : CI w w' b0 b5 b6 b11 b12 b13 b14 x y z v1 v2 n bs is) (hp : b5 = true ∧ b11 = true) : CI w w' b0 b5 b6 b11 true b13 b14 x y z v1 v2 n bs is :=
  ⟨C.fr, C.r0, C.r5, C.r6, C.r11, C.r13, fun _ => hp, fun _ => rfl, C.c14⟩
theorem CI.a13 (C : CI w w' b0 b5 b6 b11 b12 b13 b14 x y z v1 v2 n bs is) (hf : b13 = false) (hp : b12 = true) : CI w (w'.alloc (.cells #[v1, v2] 85)) b0 b5 b6 b11 b12 true b14 x y w'.heap.size v1 v2 n bs is :=
  have hf' := (Fr.refl [] w').alloc (.cells #[v1, v2] 85)
  ⟨C.fr.alloc _, fun h h' => own_fr (C.r0 h h') hf' (by simp), fun h => ⟨own_fr (C.r5 h).1 hf' (by simp), (C.r5 h).2⟩, fun h h' => own_fr (C.r6 h h') hf' (by simp), fun h => ⟨own_fr (C.r11 h).1 hf' (by simp), (C.r11 h).2⟩, fun _ => ⟨Blk.new _ _ _, C.fr.size⟩, C.c12, fun _ => hp, fun _ => rfl⟩
theorem CI.a14 (C : CI w w' b0 b5 b6 b11 b12 b13 b14 x y z v1 v2 n bs is) (hp : b13 = true) : CI w w' b0 b5 b6 b11 b12 b13 true x y z v1 v2 n bs is :=
  ⟨C.fr, C.r0, C.r5, C.r6, C.r11, C.r13, C.c12, C.c13, fun _ => hp⟩
end
def bls (s : List (Bool × Int)) : List Value := s.map fun x => .bool x.1
def ins (s : List (Bool × Int)) : List Value := s.map fun x => .int .i64 x.2
def RCopyPost (w : World) (s : List (Bool × Int)) (e : Ending) (w' : World) : Prop := ∃ q g h, e = .returned (.pointer (some ⟨q, 0, none⟩)) ∧ RTab w' q g h s ∧ Fr [] w w' ∧ w.heap.size ≤ q ∧ w.heap.size ≤ g ∧ w.heap.size ≤ h
set_option maxRecDepth 100000 in
set_option maxHeartbeats 2000000 in
theorem rCopy_any (q g h : Nat) (s : List (Bool × Int)) (w : World) (H0 : RTab w q g h s) (hn : s.length ≤ 8) : Calls Try.prog 29 #[.pointer (some ⟨q, 0, none⟩)] w (RCopyPost w s) := by
  obtain ⟨i4, hi4, hz4, hs4, hb4⟩ := info3 Try.info4'
  obtain ⟨i3, hi3, hz3, hs3, hb3⟩ := info3 Try.info3'
  obtain ⟨cap, cap', cs, cs', hc1, hc2, hq, hg, hh, hcc⟩ := H0
  have c0 := hq.cell 0
  have c1 := hq.cell 1
  simp at c0 c1
  have Hbl := Lib.hid (show (bls s).length = s.length * 1 by simp [bls])
  have His := Lib.hid (show (ins s).length = s.length * 1 by simp [ins])
  have HB := Lib.hid (show ∀ w', Fr [] w w' → ∀ (j : Nat) (u : Value), (bls s)[j]? = some u → w'.cell? ((⟨g, 0, none⟩ : Addr).add j) = some u from fun w' hf j u hu => by
    rw [addr_add, Nat.zero_add, (hg.fr hf (by simp)).cell]
    unfold bls at hu
    rw [List.getElem?_map] at hu
    cases hx : s[j]? with
    | none => rw [hx] at hu; cases hu
    | some x => rw [hx] at hu; simp at hu; subst hu; exact (hcc j x hx).1)
  have HI := Lib.hid (show ∀ w', Fr [] w w' → ∀ (j : Nat) (u : Value), (ins s)[j]? = some u → w'.cell? ((⟨h, 0, none⟩ : Addr).add j) = some u from fun w' hf j u hu => by
    rw [addr_add, Nat.zero_add, (hh.fr hf (by simp)).cell]
    unfold ins at hu
    rw [List.getElem?_map] at hu
    cases hx : s[j]? with
    | none => rw [hx] at hu; cases hu
    | some x => rw [hx] at hu; simp at hu; subst hu; exact (hcc j x hx).2)
  have Hb1 := Lib.hid (show ∀ u ∈ bls s, u.oneCell' = true by intro u hu; rw [bls, List.mem_map] at hu; obtain ⟨_, _, rfl⟩ := hu; rfl)
  have Hi1 := Lib.hid (show ∀ u ∈ ins s, u.oneCell' = true by intro u hu; rw [ins, List.mem_map] at hu; obtain ⟨_, _, rfl⟩ := hu; rfl)
  clear hq hg hh hcc
  have Hn : Hid (∃ m, m = s.length) := Lib.hid ⟨_, rfl⟩
  obtain ⟨n, hnn⟩ := Hn.out
  obtain ⟨bs, hbs⟩ : ∃ bs, bs = bls s := ⟨_, rfl⟩
  obtain ⟨is, his⟩ : ∃ is, is = ins s := ⟨_, rfl⟩
  rw [← hnn, ← hbs] at Hbl
  rw [← hnn, ← his] at His
  rw [← hbs] at HB Hb1
  rw [← his] at HI Hi1
  rw [← hnn] at c0 c1 hn hc1 hc2
  have HE := Lib.hid (And.intro hnn (And.intro hbs his))
  clear hnn hbs his Hn
  go_enter Try.func29, Try.ntmps29
  go_wp2
  have hm : Try.prog.follows .mixedOrders = true := by kernel_rfl
  refine (wpIn_wide (n := 3)).1 ?_
  refine wpIn_region_inv hm (by kernel_rfl) (fun L' a w' => ∃ (x : Nat) (v1 : Value) (y : Nat) (v2 : Value) (z : Nat), a = { tmps := #[.pointer (some ⟨q, 0, none⟩), undef, bif L'.getD 14 false then .pointer (some ⟨z, 0, none⟩) else .pointer none, bif L'.getD 0 false then .slice (some ⟨x, 0, none⟩) 0 0 else undef, bif L'.getD 1 false then .pointer (some ⟨q, 0, none⟩) else undef, bif L'.getD 2 false then .pointer (some ⟨q, 0, none⟩) else undef, bif L'.getD 3 false then .pointer (some ⟨q, 0, none⟩) else undef, bif L'.getD 4 false then .slice (some ⟨g, 0, none⟩) n cap else undef, bif L'.getD 5 false then v1 else undef, bif L'.getD 6 false then .slice (some ⟨y, 0, none⟩) 0 0 else undef, bif L'.getD 7 false then .pointer (some ⟨q, 0, none⟩) else undef, bif L'.getD 8 false then .pointer (some ⟨q, 0, none⟩) else undef, bif L'.getD 9 false then .pointer (some ⟨q, 1, none⟩) else undef, bif L'.getD 10 false then .slice (some ⟨h, 0, none⟩) n cap' else undef, bif L'.getD 11 false then v2 else undef, bif L'.getD 12 false then .agg #[v1, v2] else undef, bif L'.getD 13 false then .pointer (some ⟨z, 0, none⟩) else undef], defers := [] } ∧ CI w w' (L'.getD 0 false) (L'.getD 5 false) (L'.getD 6 false) (L'.getD 11 false) (L'.getD 12 false) (L'.getD 13 false) (L'.getD 14 false) x y z v1 v2 n bs is) ⟨0, undef, 0, undef, 0, rfl, (Fr.refl _ _).drew, (fun h => by cases h), (fun h => by cases h), (fun h => by cases h), (fun h => by cases h), (fun h => by cases h), (fun h => by cases h), (fun h => by cases h), (fun h => by cases h)⟩ ?_ ?_
  · rintro ⟨L'⟩ _ w' i o hs ho hf hp ⟨x, v1, y, v2, z, rfl, hC⟩
    match L', hs with
    | [b0, b1, b2, b3, b4, b5, b6, b7, b8, b9, b10, b11, b12, b13, b14], _ =>
      have C : CI w w' b0 b5 b6 b11 b12 b13 b14 x y z v1 v2 n bs is := hC
      have q0 := C.fr.cell_some c0 (by simp)
      have q1 := C.fr.cell_some c1 (by simp)
      clear hC
      match i, ho with
      | 0, ho =>
        injection ho with ho
        subst ho
        simp [Region.binds] at hf hp
        refine wpOpIn_step rfl (fun K' hK' => ?_)
        go_simp
        exact hK' _ _ ⟨w'.heap.size, v1, y, v2, z, by simp [hf, hp], C.a0 hf⟩
      | 1, ho =>
        injection ho with ho
        subst ho
        simp [Region.binds] at hf hp
        refine wpOpIn_step rfl (fun K' hK' => ?_)
        go_simp
        exact hK' _ _ ⟨x, v1, y, v2, z, by simp [hf, hp], C⟩
      | 2, ho =>
        injection ho with ho
        subst ho
        simp [Region.binds] at hf hp
        refine wpOpIn_step rfl (fun K' hK' => ?_)
        go_simp
        exact hK' _ _ ⟨x, v1, y, v2, z, by simp [hf, hp], C⟩
      | 3, ho =>
        injection ho with ho
        subst ho
        simp [Region.binds] at hf hp
        refine wpOpIn_step rfl (fun K' hK' => ?_)
        go_simp
        exact hK' _ _ ⟨x, v1, y, v2, z, by simp [hf, hp], C⟩
      | 4, ho =>
        injection ho with ho
        subst ho
        simp [Region.binds] at hf hp
        refine wpOpIn_step rfl (fun K' hK' => ?_)
        go_simp
        exact hK' _ _ ⟨x, v1, y, v2, z, by simp [hf, hp], C⟩
      | 5, ho =>
        injection ho with ho
        subst ho
        simp [Region.binds] at hf hp
        obtain ⟨k0, k4⟩ : b0 = true ∧ b4 = true := by simp [hp]
        have e12 := off_of (fun h => (C.c12 h).1) hf
        subst e12
        have h0 := C.r0 k0 hf
        refine wpOpIn_step rfl (fun K' hK' => ?_)
        rw [if_pos (by simp [Region.wanted])]
        refine wpIn_append (o := _) (hop := rfl) (s := .tmp 3) (x := .tmp 7) (t := 82) w.heap.size 4 i4 (.bool false) 1 1 Try.underlying82 hi4 hz4 hs4 hb4 rfl (by decide) _ 0 [] (by first | (simp [Act.eval, k0]; done) | (simp [Act.eval, k0]; rfl)) h0 ⟨g, 0, none⟩ n cap bs (by first | (simp [Act.eval, k4]; done) | (simp [Act.eval, k4]; rfl)) Hbl.out (HB.out w' C.fr) Hb1.out (by simp only [maxLen]; omega) (by omega) C.fr.size ?_
        intro v' w'' ho' hg' hnn
        exact hK' _ _ ⟨x, v', y, v2, z, by simp [hf, hp, Act.put], C.a5 hf h0 (by simpa using ho') hg' (fun e => by have := (hnn.1 e).1; cases this)⟩
      | 6, ho =>
        injection ho with ho
        subst ho
        simp [Region.binds] at hf hp
        refine wpOpIn_step rfl (fun K' hK' => ?_)
        go_simp
        exact hK' _ _ ⟨x, v1, w'.heap.size, v2, z, by simp [hf, hp], C.a6 hf⟩
      | 7, ho =>
        injection ho with ho
        subst ho
        simp [Region.binds] at hf hp
        refine wpOpIn_step rfl (fun K' hK' => ?_)
        go_simp
        exact hK' _ _ ⟨x, v1, y, v2, z, by simp [hf, hp], C⟩
      | 8, ho =>
        injection ho with ho
        subst ho
        simp [Region.binds] at hf hp
        refine wpOpIn_step rfl (fun K' hK' => ?_)
        go_simp
        exact hK' _ _ ⟨x, v1, y, v2, z, by simp [hf, hp], C⟩
      | 9, ho =>
        injection ho with ho
        subst ho
        simp [Region.binds] at hf hp
        refine wpOpIn_step rfl (fun K' hK' => ?_)
        go_simp
        exact hK' _ _ ⟨x, v1, y, v2, z, by simp [hf, hp], C⟩
      | 10, ho =>
        injection ho with ho
        subst ho
        simp [Region.binds] at hf hp
        refine wpOpIn_step rfl (fun K' hK' => ?_)
        go_simp
        exact hK' _ _ ⟨x, v1, y, v2, z, by simp [hf, hp], C⟩
      | 11, ho =>
        injection ho with ho
        subst ho
        simp [Region.binds] at hf hp
        obtain ⟨k6, k10, k5⟩ : b6 = true ∧ b10 = true ∧ b5 = true := by simp [hp]
        have e12 := off_of (fun h => (C.c12 h).2) hf
        subst e12
        have h6 := C.r6 k6 hf
        refine wpOpIn_step rfl (fun K' hK' => ?_)
        rw [if_pos (by simp [Region.wanted])]
        refine wpIn_append (o := _) (hop := rfl) (s := .tmp 9) (x := .tmp 13) (t := 83) w.heap.size 3 i3 (.int .i64 0) 1 8 Try.underlying83 hi3 hz3 hs3 hb3 rfl (by decide) _ 0 [] (by first | (simp [Act.eval, k6]; done) | (simp [Act.eval, k6]; rfl)) h6 ⟨h, 0, none⟩ n cap' is (by first | (simp [Act.eval, k10]; done) | (simp [Act.eval, k10]; rfl)) His.out (HI.out w' C.fr) Hi1.out (by simp only [maxLen]; omega) (by omega) C.fr.size ?_
        intro v' w'' ho' hg' hnn
        exact hK' _ _ ⟨x, v1, y, v', z, by simp [hf, hp, Act.put], C.a11 hf h6 (by simpa using ho') hg' (fun e => by have := (hnn.1 e).1; cases this)⟩
      | 12, ho =>
        injection ho with ho
        subst ho
        simp [Region.binds] at hf hp
        obtain ⟨k5, k11⟩ : b5 = true ∧ b11 = true := by simp [hp]
        clear hp
        subst k5
        subst k11
        obtain ⟨g1, e1, cs1, e5, -⟩ := own_some (C.r5 rfl).1 (C.r5 rfl).2
        obtain ⟨g2, e2, cs2, e11, -⟩ := own_some (C.r11 rfl).1 (C.r11 rfl).2
        subst e5
        subst e11
        refine wpOpIn_step rfl (fun K' hK' => ?_)
        go_simp
        exact hK' _ _ ⟨x, _, y, _, z, by simp [hf], C.a12 ⟨rfl, rfl⟩⟩
      | 13, ho =>
        injection ho with ho
        subst ho
        simp [Region.binds] at hf hp
        have e14 := off_of C.c14 hf
        subst e14
        refine wpOpIn_step rfl (fun K' hK' => ?_)
        go_simp
        exact hK' _ _ ⟨x, v1, y, v2, w'.heap.size, by simp [hf, hp], C.a13 hf (by simp [hp])⟩
      | 14, ho =>
        injection ho with ho
        subst ho
        simp [Region.binds] at hf hp
        refine wpOpIn_step rfl (fun K' hK' => ?_)
        go_simp
        exact hK' _ _ ⟨x, v1, y, v2, z, by simp [hf, hp], C.a14 (by simp [hp])⟩
      | i + 15, ho => simp at ho
  · rintro _ w' ⟨x, v1, y, v2, z, rfl, hC⟩
    have C : CI w w' true true true true true true true x y z v1 v2 n bs is := hC
    have k1 := C.r5 rfl
    have k2 := C.r11 rfl
    have k3 := C.r13 rfl
    obtain ⟨g1, e1, cs1, rfl, h1, h2, h3, h4⟩ := own_some k1.1 k1.2
    obtain ⟨g2, e2, cs2, rfl, h5, h6, h7, h8⟩ := own_some k2.1 k2.2
    have hfr := C.fr
    clear hC C k1 k2
    go_wp2
    go_ret
    obtain ⟨E1, E2, E3⟩ := HE.out
    subst E1; subst E2; subst E3
    refine ⟨z, g1, g2, rfl, ⟨e1, e2, cs1, cs2, h2, h6, k3.1, h3, h7, fun j y hy => ⟨h4 j _ ?_, h8 j _ ?_⟩⟩, hfr, k3.2, h1, h5⟩
    · simp [bls, hy]
    · simp [ins, hy]
end Go.Proofs.Ytnpdljmgjpngaaa

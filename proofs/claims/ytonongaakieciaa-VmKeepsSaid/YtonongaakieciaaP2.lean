/- A program that lies in the first frame is fetched as it was written (no program in sight). The laws of VmAnswers and VmReturns: what their programs come to (no program in sight). -/
import Derived.Test.YtonongaakieciaaF6
import Derived.Test.YtonongaakieciaaB6
namespace Go.Proofs.Ytonongaakieciaa
open Go.RowKit
set_option linter.unusedVariables false
set_option linter.unusedSimpArgs false
set_option maxRecDepth 100000
theorem and255 (m : Int) : bits .and .i64 m 255 = m % 256 := by
  show IntKind.i64.wrap (((BitVec.ofInt 64 m &&& BitVec.ofInt 64 255).toNat : Nat) : Int) = _
  have e : (BitVec.ofInt 64 255).toNat = 2 ^ 8 - 1 := by decide
  rw [BitVec.toNat_and, e, Nat.and_two_pow_sub_one_eq_mod, BitVec.toNat_ofInt]
  have h : ((((m % ((2 ^ 64 : Nat) : Int)).toNat % 2 ^ 8 : Nat)) : Int) = m % 256 := by omega
  rw [h]
  exact IntWalk.i64_in _ (by omega)
theorem bs4_list (a b c d : Int) : (bs4 a b c d).data.toList = [UInt8.ofNat a.toNat, UInt8.ofNat b.toNat, UInt8.ofNat c.toNat, UInt8.ofNat d.toNat] := rfl
theorem decI_of {s : ByteArray} {c0 c1 c2 c3 : UInt8} (h : s.data.toList = [c0, c1, c2, c3]) : decI s = decB c0.toNat c1.toNat c2.toNat c3.toNat := by
  unfold decI
  rw [h]
theorem okI_iff {i : In} {k : Nat} (h : okI i k = true) : (0 ≤ i.a ∧ i.a ≤ 15) ∧ (0 ≤ i.b ∧ i.b ≤ 15) ∧ (hasC (fm k) 115 = true → -32768 ≤ i.m ∧ i.m ≤ 32767) ∧ (hasC (fm k) 115 = false → 0 ≤ i.m ∧ i.m ≤ 65535) := by
  unfold okI fitsB at h
  cases hs : hasC (fm k) 115 <;> simp only [hs, if_true, if_false, Bool.false_eq_true] at h <;> simp at h <;> refine ⟨by omega, by omega, ?_, ?_⟩ <;> intro hh <;> simp_all <;> omega
theorem u8n (n : Int) (h0 : 0 ≤ n) (h : n < 256) : (UInt8.ofNat n.toNat).toNat = n.toNat := by
  rw [UInt8.toNat_ofNat']
  omega
theorem enc_dec {i : In} {k : Nat} (hk : k < 30) (hop : i.op = (k : Int)) (ho : okI i k = true) : decI (encB i) = (i, 0) := by
  obtain ⟨ha, hb, hs, hu⟩ := okI_iff ho
  obtain ⟨op, a, b, m⟩ := i
  simp only at hop ha hb hs hu
  subst hop
  unfold encB
  rw [decI_of (bs4_list ..)]
  simp only [and255]
  have hw1 : wrap64 (wrap64 (16 * a) + b) = 16 * a + b := by unfold wrap64; omega
  rw [hw1, u8n _ (by omega) (by omega), u8n _ (by omega) (by omega), u8n _ (by omega) (by omega), u8n _ (by omega) (by omega)]
  obtain ⟨A, rfl⟩ := Int.eq_ofNat_of_zero_le ha.1
  obtain ⟨B, rfl⟩ := Int.eq_ofNat_of_zero_le hb.1
  have e0 : ((k : Int) % 256).toNat = k := by omega
  have e1 : ((16 * (A : Int) + (B : Int)) % 256).toNat = 16 * A + B := by omega
  rw [e0, e1]
  have emk : mkI k (16 * A + B) (m / 256 % 256 % 256).toNat (m % 256 % 256).toNat = ⟨k, A, B, m⟩ := by
    unfold mkI imB
    have q1 : (16 * A + B) / 16 = A := by omega
    have q2 : (16 * A + B) % 16 = B := by omega
    rw [q1, q2]
    have q3 : (((m / 256 % 256 % 256).toNat * 256 + (m % 256 % 256).toNat : Nat) : Int) = m % 65536 := by
      have v1 : m = 256 * (m / 256) + m % 256 := by omega
      have v2 : 0 ≤ m % 256 ∧ m % 256 < 256 := by omega
      generalize m % 256 = y at *
      generalize m / 256 = q at *
      have v3 : q = 256 * (q / 256) + q % 256 := by omega
      have v4 : 0 ≤ q % 256 ∧ q % 256 < 256 := by omega
      generalize q % 256 = x at *
      generalize q / 256 = s at *
      clear hs hu hw1
      subst v3
      subst v1
      omega
    generalize (m / 256 % 256 % 256).toNat * 256 + (m % 256 % 256).toNat = N at *
    have q4 : (if hasC (fm k) 115 = true ∧ 32768 ≤ N then (N : Int) - 65536 else (N : Int)) = m := by
      cases hc : hasC (fm k) 115 with
      | true =>
        have := hs hc
        simp only [true_and]
        split <;> omega
      | false =>
        have := hu hc
        simp
        omega
    rw [q4]
  unfold decB
  rw [emk, if_pos ⟨hk, ho⟩]
theorem encB_list (i : In) : ∃ c0 c1 c2 c3, (encB i).data.toList = [c0, c1, c2, c3] := ⟨_, _, _, _, bs4_list ..⟩
theorem fet_law {x : Vm} {st : St} {t : List Pg} {i : In} {k : Nat} (hw : x.wt = false) (hk : k < 30) (hop : i.op = (k : Int)) (ho : okI i k = true) (hr : rdR st t x.pl 4 4 = ((encB i).data.toList, 0)) : fetI x st t = (i, 0) := by
  unfold fetI
  rw [hr, if_neg (by rw [hw]; simp), if_neg (by simp)]
  have e : (⟨(encB i).data.toList.toArray⟩ : ByteArray) = encB i := by simp
  simp only [e]
  rw [enc_dec hk hop ho, if_neg (by simp)]
theorem rd_law {st : St} {t : List Pg} {r : Int} (hT : okT st.n t = true) (h0 : t[0]? = some ⟨0, r⟩) (hr : bits .and .i64 r 4 ≠ 0) {a : Nat} (ha : a + 4 ≤ 256) : rdR st t (a : Int) 4 4 = ([st.b a, st.b (a + 1), st.b (a + 2), st.b (a + 3)], 0) := by
  have hq : ∀ i : Nat, i < 4 → t[(a + i) / 256]? = some ⟨0, r⟩ := fun i hi => by
    rw [show (a + i) / 256 = 0 from by omega]
    exact h0
  have hc : ∀ i : Nat, i < 4 → ch1 t 4 ((a : Int) + (i : Nat)) = 0 := fun i hi => by
    rw [show (a : Int) + (i : Nat) = ((a + i : Nat) : Int) from by omega, ch1_at (hq i hi)]
    simp [hr]
  have hl : ∀ i : Nat, i < 4 → loc t ((a : Int) + (i : Nat)) = a + i := fun i hi => by
    rw [show (a : Int) + (i : Nat) = ((a + i : Nat) : Int) from by omega, loc_at (hq i hi)]
    simp
    omega
  unfold rdR
  rw [if_neg (by rw [hT]; simp), if_neg (by omega)]
  have hz : thr t 4 (a : Int) (4 : Int).toNat = 0 := thr_zero (k := 4) hc
  rw [if_pos hz, hz]
  refine Prod.ext ?_ rfl
  show [st.b (loc t ((a : Int) + (0 : Nat))), st.b (loc t ((a : Int) + (1 : Nat))), st.b (loc t ((a : Int) + (2 : Nat))), st.b (loc t ((a : Int) + (3 : Nat)))] = _
  rw [hl 0 (by omega), hl 1 (by omega), hl 2 (by omega), hl 3 (by omega)]
  rfl
/-- The bytes of a program lie at the memory's start. -/
def PrgAt (st : St) (f : Nat → In) (n : Nat) : Prop := ∀ (j : Nat), j < n → [st.b (4 * j), st.b (4 * j + 1), st.b (4 * j + 2), st.b (4 * j + 3)] = (encB (f j)).data.toList
def okF_ (f : Nat → In) (n : Nat) : Prop := ∀ j, j < n → ∃ k : Nat, k < 30 ∧ (f j).op = (k : Int) ∧ okI (f j) k = true
theorem catE_at (f : Nat → In) : ∀ n j c, j < n → c < 4 → (catE f n).data.toList[4 * j + c]? = (encB (f j)).data.toList[c]? := by
  intro n
  induction n with
  | zero => intro j c h; omega
  | succ n ih =>
    intro j c hj hc
    have hs : (catE f n).data.toList.length = 4 * n := catE_size f n
    have e : (catE f (n + 1)).data.toList = (catE f n).data.toList ++ (encB (f n)).data.toList := by
      show (catE f n ++ encB (f n)).data.toList = _
      rw [ByteArray.data_append, Array.toList_append]
    rw [e]
    by_cases h : j < n
    · rw [List.getElem?_append_left (by omega)]
      exact ih j c h hc
    · obtain rfl : j = n := by omega
      rw [List.getElem?_append_right (by omega), hs]
      congr 1
      omega
theorem PrgAt.lay {N : Nat} (f : Nat → In) (n : Nat) (hn : n ≤ 64) (hN : 1 ≤ N) (b : Nat → UInt8) : PrgAt (layS ⟨N, b⟩ 0 0 (catE f n)) f n := by
  intro j hj
  have hsz := catE_size f n
  have hb : ∀ c, c < 4 → some ((layS ⟨N, b⟩ 0 0 (catE f n)).b (4 * j + c)) = (encB (f j)).data.toList[c]? := by
    intro c hc
    have h1 := layS_at (m := ⟨N, b⟩) (f := 0) ⟨by omega, by show (0 : Int) < (N : Int); omega⟩ (s := catE f n) (by omega) (o := 4 * j + c) (by omega)
    simp only [Int.toNat_zero, Nat.zero_mul, Nat.zero_add] at h1
    rw [h1, if_pos (by omega), ← catE_at f n j c hj hc]
    obtain ⟨u, hu⟩ : ∃ u, (catE f n).data.toList[4 * j + c]? = some u := ⟨_, List.getElem?_eq_getElem (by show _ < (catE f n).size; omega)⟩
    rw [byA_in hu, hu]
  obtain ⟨c0, c1, c2, c3, e⟩ := encB_list (f j)
  have h0 := hb 0 (by omega)
  have h1 := hb 1 (by omega)
  have h2 := hb 2 (by omega)
  have h3 := hb 3 (by omega)
  rw [e] at h0 h1 h2 h3 ⊢
  simp at h0 h1 h2 h3
  rw [h0, h1, h2, h3]
theorem layE_ok {N n : Nat} (f : Nat → In) (hn : n ≤ 64) (hN : 1 ≤ N) : layE N 0 0 (catE f n) = 0 := by
  have := catE_size f n
  unfold layE
  rw [if_neg (by omega), if_neg (by omega)]
theorem layS_n (m : St) (f a : Int) (s : ByteArray) : (layS m f a s).n = m.n := by
  unfold layS
  split <;> rfl
theorem fet_prog {f : Nat → In} {n : Nat} {x : Vm} {st : St} {t : List Pg} {r : Int} (hp : PrgAt st f n) (hf : okF_ f n) (hn : n ≤ 64) (hT : okT st.n t = true) (h0 : t[0]? = some ⟨0, r⟩) (hr : bits .and .i64 r 4 ≠ 0) (hw : x.wt = false) {j : Nat} (hj : j < n) (hpl : x.pl = ((4 * j : Nat) : Int)) : fetI x st t = (f j, 0) := by
  obtain ⟨k, hk, hop, ho⟩ := hf j hj
  refine fet_law hw hk hop ho ?_
  rw [hpl, rd_law hT h0 hr (by omega), hp j hj]
theorem step_prog {f : Nat → In} {n : Nat} {x : Vm} {st : St} {t : List Pg} {r : Int} (hp : PrgAt st f n) (hf : okF_ f n) (hn : n ≤ 64) (hT : okT st.n t = true) (h0 : t[0]? = some ⟨0, r⟩) (hr : bits .and .i64 r 4 ≠ 0) (hw : x.wt = false) {j : Nat} (hj : j < n) (hpl : x.pl = ((4 * j : Nat) : Int)) :
    stepV x st t = stepI x st t (f j).op.toNat (f j).a.toNat (f j).b.toNat (f j).m := by
  unfold stepV
  rw [fet_prog hp hf hn hT h0 hr hw hj hpl, if_neg (by simp)]
end Go.Proofs.Ytonongaakieciaa
namespace Go.Proofs.Ytonongaakieciaa
open Go.RowKit
set_option linter.unusedVariables false
set_option linter.unusedSimpArgs false
set_option maxRecDepth 100000
/-- A machine's steps, so many. -/
def xN (x : Vm) (st : St) (t : List Pg) : Nat → Vm
  | 0 => x
  | j + 1 => (stepV (xN x st t j) st t).2.1
def low (n : Int) : Int := n % 4294967296
theorem low_in (n : Int) : 0 ≤ low n ∧ low n < 4294967296 := by unfold low; omega
theorem hi_low (n : Int) (h0 : 0 ≤ n) (h : n < 4294967296) : hiV (n % 65536 % 4294967296) (n / 65536) = n := by
  unfold hiV
  obtain ⟨N, rfl⟩ := Int.eq_ofNat_of_zero_le h0
  have e1 : ((N : Int) % 65536 % 4294967296) = ((N % 65536 : Nat) : Int) := by omega
  have e2 : ((N : Int) / 65536 % 4294967296 * 65536 % 4294967296) = ((N / 65536 * 65536 : Nat) : Int) := by omega
  rw [e1, e2]
  have a1 : bits .and .u32 ((N % 65536 : Nat) : Int) 65535 = ((N % 65536 : Nat) : Int) := by
    show IntKind.u32.wrap (((BitVec.ofInt 32 ((N % 65536 : Nat) : Int) &&& BitVec.ofInt 32 65535).toNat : Nat) : Int) = _
    have e : (BitVec.ofInt 32 65535).toNat = 2 ^ 16 - 1 := by decide
    rw [BitVec.toNat_and, e, Nat.and_two_pow_sub_one_eq_mod, BitVec.ofInt_natCast, BitVec.toNat_ofNat, Nat.mod_eq_of_lt (by omega), Nat.mod_eq_of_lt (by omega)]
    exact IntWalk.u32_in _ (by omega)
  rw [a1]
  show IntKind.u32.wrap (((BitVec.ofInt 32 ((N % 65536 : Nat) : Int) ||| BitVec.ofInt 32 ((N / 65536 * 65536 : Nat) : Int)).toNat : Nat) : Int) = _
  rw [BitVec.toNat_or, BitVec.ofInt_natCast, BitVec.ofInt_natCast, BitVec.toNat_ofNat, BitVec.toNat_ofNat, Nat.mod_eq_of_lt (a := N % 65536) (by omega), Nat.mod_eq_of_lt (a := N / 65536 * 65536) (by omega)]
  have h2 : N % 65536 ||| N / 65536 * 65536 = N := by
    rw [Nat.or_comm, Nat.mul_comm]
    have := (Nat.two_pow_add_eq_or_of_lt (i := 16) (b := N % 65536) (by omega) (N / 65536)).symm
    rw [show (65536 : Nat) = 2 ^ 16 from rfl] at *
    rw [this]
    exact Nat.div_add_mod N (2 ^ 16)
  rw [h2]
  exact IntWalk.u32_in _ (by omega)
theorem pN_mod (n : Nat) (h : n ≤ 1000) : ((4 * n : Nat) : Int) + 4 = ((4 * (n + 1) : Nat) : Int) ∧ (((4 * n : Nat) : Int) + 4) % 4294967296 = ((4 * (n + 1) : Nat) : Int) := by omega
section
variable {f : Nat → In} {n : Nat} {st : St} {t : List Pg} {r : Int} (hp : PrgAt st f n) (hf : okF_ f n) (hn : n ≤ 64) (hT : okT st.n t = true) (h0 : t[0]? = some ⟨0, r⟩) (hr : bits .and .i64 r 4 ≠ 0)
include hp hf hn hT h0 hr
/-- Set, and High behind it, put a whole number into a register. -/
theorem set_high {x : Vm} (hw : x.wt = false) {j a : Nat} (hj : j + 1 < n) (hpl : x.pl = ((4 * j : Nat) : Int)) {v : Int} (hv : 0 ≤ v ∧ v < 4294967296) (f1 : f j = ⟨2, a, 0, v % 65536⟩) (f2 : f (j + 1) = ⟨3, a, 0, v / 65536⟩) :
    ∃ x1 x2 : Vm, stepV x st t = ((0, 0), x1, st) ∧ x1.wt = false ∧ stepV x1 st t = ((0, 0), x2, st) ∧ x2.wt = false ∧ x2.pl = ((4 * (j + 2) : Nat) : Int) ∧ x2.r a = v ∧ ∀ k, k ≠ a → x2.r k = x.r k := by
  have s1 := step_prog hp hf hn hT h0 hr hw (j := j) (by omega) hpl
  rw [f1] at s1
  have s1' : stepV x st t = ((0, 0), putP (putR x a (v % 65536 % 4294967296)) ((x.pl + 4) % 4294967296), st) := s1
  rw [hpl, (pN_mod j (by omega)).2] at s1'
  have s2 := step_prog hp hf hn hT h0 hr (x := putP (putR x a (v % 65536 % 4294967296)) ((4 * (j + 1) : Nat) : Int)) hw (j := j + 1) (by omega) rfl
  rw [f2] at s2
  have s2' : stepV (putP (putR x a (v % 65536 % 4294967296)) ((4 * (j + 1) : Nat) : Int)) st t = ((0, 0), putP (putR (putP (putR x a (v % 65536 % 4294967296)) ((4 * (j + 1) : Nat) : Int)) a (hiV ((putP (putR x a (v % 65536 % 4294967296)) ((4 * (j + 1) : Nat) : Int)).r a) (v / 65536))) ((((4 * (j + 1) : Nat) : Int) + 4) % 4294967296), st) := s2
  rw [(pN_mod (j + 1) (by omega)).2] at s2'
  have e : (putP (putR x a (v % 65536 % 4294967296)) ((4 * (j + 1) : Nat) : Int)).r a = v % 65536 % 4294967296 := by simp [putP, putR]
  rw [e, hi_low v hv.1 hv.2] at s2'
  refine ⟨_, _, s1', hw, s2', hw, rfl, by simp [putP, putR], fun k hk => by simp [putP, putR, hk]⟩
end
/-- VmAnswers' program. -/
def fA (r0 r1 r2 : Int) (j : Nat) : In :=
  match j with
  | 0 => ⟨2, 2, 0, low r0 % 65536⟩
  | 1 => ⟨3, 2, 0, low r0 / 65536⟩
  | 2 => ⟨2, 3, 0, low r1 % 65536⟩
  | 3 => ⟨3, 3, 0, low r1 / 65536⟩
  | 4 => ⟨2, 4, 0, low r2 % 65536⟩
  | 5 => ⟨3, 4, 0, low r2 / 65536⟩
  | _ => ⟨29, 0, 0, 7⟩
theorem okI_set (k a : Nat) (hk : k = 2 ∨ k = 3) (ha : a < 16) (m : Int) (h0 : 0 ≤ m) (h1 : m ≤ 65535) : okI ⟨k, a, 0, m⟩ k = true := by
  have a0 : (0 : Int) ≤ (a : Int) := by omega
  have a1 : (a : Int) ≤ 15 := by omega
  have e : fm 2 = fm 3 := rfl
  have c1 : hasC (fm 3) 97 = true := by decide
  have c2 : hasC (fm 3) 98 = false := by decide
  have c3 : hasU (fm 3) = true := by decide
  have c4 : hasC (fm 3) 115 = false := by decide
  rcases hk with rfl | rfl <;> simp [okI, fitsB, e, c1, c2, c3, c4, a0, a1, h0, h1]
theorem okF_A (r0 r1 r2 : Int) : okF_ (fA r0 r1 r2) 7 := by
  have l0 := low_in r0
  have l1 := low_in r1
  have l2 := low_in r2
  intro j hj
  match j, hj with
  | 0, _ => exact ⟨2, by decide, rfl, okI_set 2 2 (.inl rfl) (by decide) _ (by omega) (by omega)⟩
  | 1, _ => exact ⟨3, by decide, rfl, okI_set 3 2 (.inr rfl) (by decide) _ (by omega) (by omega)⟩
  | 2, _ => exact ⟨2, by decide, rfl, okI_set 2 3 (.inl rfl) (by decide) _ (by omega) (by omega)⟩
  | 3, _ => exact ⟨3, by decide, rfl, okI_set 3 3 (.inr rfl) (by decide) _ (by omega) (by omega)⟩
  | 4, _ => exact ⟨2, by decide, rfl, okI_set 2 4 (.inl rfl) (by decide) _ (by omega) (by omega)⟩
  | 5, _ => exact ⟨3, by decide, rfl, okI_set 3 4 (.inr rfl) (by decide) _ (by omega) (by omega)⟩
  | 6, _ => exact ⟨29, by decide, rfl, by kernel_rfl⟩
def stA (r0 r1 r2 : Int) : St := layS ⟨1, fun _ => 0⟩ 0 0 (catE (fA r0 r1 r2) 7)
theorem okTF : okT 1 tF = true := by decide
theorem bits74 : bits .and .i64 7 4 ≠ 0 := by decide
theorem bits54 : bits .and .i64 5 4 ≠ 0 := by decide
theorem ans_run (r0 r1 r2 : Int) : ∃ xs : Nat → Vm, xs 0 = vm0 ∧ (∀ j, j < 7 → (xs j).wt = false ∧ (stepV (xs j) (stA r0 r1 r2) tF).2 = (xs (j + 1), stA r0 r1 r2)) ∧ (xs 7).wt = true ∧ (xs 7).pl = 28 ∧ (xs 7).r 0 = 0 ∧ (xs 7).r 2 = low r0 ∧ (xs 7).r 3 = low r1 ∧ (xs 7).r 4 = low r2 := by
  have hp : PrgAt (stA r0 r1 r2) (fA r0 r1 r2) 7 := PrgAt.lay (fA r0 r1 r2) 7 (by decide) (by decide) _
  have hT : okT (stA r0 r1 r2).n tF = true := by unfold stA; rw [layS_n]; exact okTF
  have hf := okF_A r0 r1 r2
  obtain ⟨x1, x2, a1, a2, a3, a4, a5, a6, a7⟩ := set_high hp hf (by decide) hT rfl bits74 (x := vm0) rfl (j := 0) (a := 2) (by decide) rfl (low_in r0) rfl rfl
  obtain ⟨x3, x4, b1, b2, b3, b4, b5, b6, b7⟩ := set_high hp hf (by decide) hT rfl bits74 (x := x2) a4 (j := 2) (a := 3) (by decide) a5 (low_in r1) rfl rfl
  obtain ⟨x5, x6, c1, c2, c3, c4, c5, c6, c7⟩ := set_high hp hf (by decide) hT rfl bits74 (x := x4) b4 (j := 4) (a := 4) (by decide) b5 (low_in r2) rfl rfl
  have d1 := step_prog hp hf (by decide) hT rfl bits74 c4 (j := 6) (by decide) c5
  have d1' : stepV x6 (stA r0 r1 r2) tF = ((3, 7), putP (putW x6 true) ((x6.pl + 4) % 4294967296), stA r0 r1 r2) := d1
  refine ⟨fun j => match j with | 0 => vm0 | 1 => x1 | 2 => x2 | 3 => x3 | 4 => x4 | 5 => x5 | 6 => x6 | _ => putP (putW x6 true) ((x6.pl + 4) % 4294967296), rfl, ?_, rfl, ?_, ?_, ?_, ?_, ?_⟩
  · intro j hj
    match j, hj with
    | 0, _ => exact ⟨rfl, congrArg Prod.snd a1⟩
    | 1, _ => exact ⟨a2, congrArg Prod.snd a3⟩
    | 2, _ => exact ⟨a4, congrArg Prod.snd b1⟩
    | 3, _ => exact ⟨b2, congrArg Prod.snd b3⟩
    | 4, _ => exact ⟨b4, congrArg Prod.snd c1⟩
    | 5, _ => exact ⟨c2, congrArg Prod.snd c3⟩
    | 6, _ => exact ⟨c4, congrArg Prod.snd d1'⟩
  · show (x6.pl + 4) % 4294967296 = 28
    rw [c5]
    decide
  · show x6.r 0 = 0
    rw [c7 0 (by decide), b7 0 (by decide), a7 0 (by decide)]
    rfl
  · show x6.r 2 = _
    rw [c7 2 (by decide), b7 2 (by decide), a6]
  · show x6.r 3 = _
    rw [c7 3 (by decide), b6]
  · exact c6
/-- VmReturns' program. -/
def fR (at_ far : Nat) (j : Nat) : In := if j < at_ then ⟨0, 0, 0, 0⟩ else if j = at_ then ⟨28, 9, 0, far⟩ else if j < at_ + 1 + far then ⟨1, 0, 0, 0⟩ else ⟨27, 9, 0, 0⟩
theorem okI_call (far : Nat) (h : far ≤ 32767) : okI ⟨28, 9, 0, (far : Int)⟩ 28 = true := by
  have c1 : hasC (fm 28) 97 = true := by decide
  have c2 : hasC (fm 28) 98 = false := by decide
  have c3 : hasU (fm 28) = true := by decide
  have c4 : hasC (fm 28) 115 = true := by decide
  have h1 : (-32768 : Int) ≤ (far : Int) := by omega
  have h2 : (far : Int) ≤ 32767 := by omega
  simp [okI, fitsB, c1, c2, c3, c4, h1, h2]
theorem okF_R (at_ far n : Nat) (h : far ≤ 32767) : okF_ (fR at_ far) n := by
  intro j hj
  unfold fR
  split
  · exact ⟨0, by decide, rfl, by decide⟩
  · split
    · exact ⟨28, by decide, rfl, okI_call far h⟩
    · split
      · exact ⟨1, by decide, rfl, by decide⟩
      · exact ⟨27, by decide, rfl, by decide⟩
def tR : List Pg := [⟨0, 5⟩]
theorem okTR : okT 1 tR = true := by decide
def stR (at_ far : Nat) : St := layS ⟨1, fun _ => 0⟩ 0 0 (catE (fR at_ far) (at_ + far + 2))
theorem ret_run (at_ far : Nat) (h1 : at_ < 20) (h2 : 1 ≤ far) (h3 : far ≤ 20) : ∃ xs : Nat → Vm, xs 0 = vm0 ∧ (∀ j, j < at_ + 2 → stepV (xs j) (stR at_ far) tR = ((0, 0), xs (j + 1), stR at_ far)) ∧ (xs (at_ + 2)).pl = ((4 * at_ + 4 : Nat) : Int) ∧ (xs (at_ + 2)).r 9 = ((4 * at_ + 4 : Nat) : Int) ∧ stepV (xs (at_ + 2)) (stR at_ far) tR = ((1, 0), xs (at_ + 2), stR at_ far) := by
  have hp : PrgAt (stR at_ far) (fR at_ far) (at_ + far + 2) := PrgAt.lay (fR at_ far) (at_ + far + 2) (by omega) (by decide) _
  have hT : okT (stR at_ far).n tR = true := by unfold stR; rw [layS_n]; exact okTR
  have hf := okF_R at_ far (at_ + far + 2) (by omega)
  let xa : Nat → Vm := fun j => ⟨fun _ => 0, ((4 * j : Nat) : Int), false⟩
  let xb : Vm := ⟨fun k => if k = 9 then ((4 * (at_ + 1) : Nat) : Int) else 0, ((4 * (at_ + 1 + far) : Nat) : Int), false⟩
  let xc : Vm := ⟨fun k => if k = 9 then ((4 * (at_ + 1) : Nat) : Int) else 0, ((4 * (at_ + 1) : Nat) : Int), false⟩
  have sa : ∀ j, j < at_ → stepV (xa j) (stR at_ far) tR = ((0, 0), xa (j + 1), stR at_ far) := by
    intro j hj
    have s := step_prog hp hf (by omega) hT rfl bits54 (x := xa j) rfl (j := j) (by omega) rfl
    have e : fR at_ far j = ⟨0, 0, 0, 0⟩ := by unfold fR; rw [if_pos hj]
    rw [e] at s
    have s' : stepV (xa j) (stR at_ far) tR = ((0, 0), putP (xa j) ((((4 * j : Nat) : Int) + 4) % 4294967296), stR at_ far) := s
    rw [s', (pN_mod j (by omega)).2]
    rfl
  have sb : stepV (xa at_) (stR at_ far) tR = ((0, 0), xb, stR at_ far) := by
    have s := step_prog hp hf (by omega) hT rfl bits54 (x := xa at_) rfl (j := at_) (by omega) rfl
    have e : fR at_ far at_ = ⟨28, 9, 0, far⟩ := by unfold fR; rw [if_neg (by omega), if_pos rfl]
    rw [e] at s
    have s' : stepV (xa at_) (stR at_ far) tR = ((0, 0), putP (putR (xa at_) 9 ((((4 * at_ : Nat) : Int) + 4) % 4294967296)) ((((((4 * at_ : Nat) : Int) + 4) % 4294967296) + 4 * (far : Int)) % 4294967296), stR at_ far) := s
    rw [s', (pN_mod at_ (by omega)).2]
    have e2 : (((4 * (at_ + 1) : Nat) : Int) + 4 * (far : Int)) % 4294967296 = ((4 * (at_ + 1 + far) : Nat) : Int) := by omega
    rw [e2]
    rfl
  have sc : stepV xb (stR at_ far) tR = ((0, 0), xc, stR at_ far) := by
    have s := step_prog hp hf (by omega) hT rfl bits54 (x := xb) rfl (j := at_ + 1 + far) (by omega) rfl
    have e : fR at_ far (at_ + 1 + far) = ⟨27, 9, 0, 0⟩ := by unfold fR; rw [if_neg (by omega), if_neg (by omega), if_neg (by omega)]
    rw [e] at s
    exact s
  have sd : stepV xc (stR at_ far) tR = ((1, 0), xc, stR at_ far) := by
    have s := step_prog hp hf (by omega) hT rfl bits54 (x := xc) rfl (j := at_ + 1) (by omega) rfl
    have e : fR at_ far (at_ + 1) = ⟨1, 0, 0, 0⟩ := by unfold fR; rw [if_neg (by omega), if_neg (by omega), if_pos (by omega)]
    rw [e] at s
    exact s
  refine ⟨fun j => if j ≤ at_ then xa j else if j = at_ + 1 then xb else xc, ?_, ?_, ?_, ?_, ?_⟩
  · simp only [Nat.zero_le, if_true]
    rfl
  · intro j hj
    simp only
    by_cases h : j < at_
    · rw [if_pos (by omega), if_pos (by omega)]
      exact sa j h
    · by_cases h' : j = at_
      · subst h'
        rw [if_pos (by omega), if_neg (by omega), if_pos rfl]
        exact sb
      · obtain rfl : j = at_ + 1 := by omega
        rw [if_neg (by omega), if_pos rfl, if_neg (by omega), if_neg (by omega)]
        exact sc
  · simp only
    rw [if_neg (by omega), if_neg (by omega)]
    show ((4 * (at_ + 1) : Nat) : Int) = _
    omega
  · simp only
    rw [if_neg (by omega), if_neg (by omega)]
    show ((4 * (at_ + 1) : Nat) : Int) = _
    omega
  · simp only
    rw [if_neg (by omega), if_neg (by omega)]
    exact sd
end Go.Proofs.Ytonongaakieciaa

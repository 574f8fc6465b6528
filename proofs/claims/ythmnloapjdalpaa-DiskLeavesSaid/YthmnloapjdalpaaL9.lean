/- DiskAgain: the walk. -/
import Derived.Test.YthmnloapjdalpaaL8
namespace Go.Proofs.Ythmnloapjdalpaa
open Go.RowKit
set_option linter.unusedVariables false
set_option linter.unusedSimpArgs false
theorem clean_left {d : Dk} (h : ∀ k, d.u k = none) (c : Nat → Int) : leftB d c = d.s := by
  funext i
  unfold leftB
  rw [h]
theorem clean_image {d : Dk} (h : ∀ k, d.u k = none) : d.image = d.safe := by
  unfold Dk.image Dk.safe
  rw [← left_rd, clean_left h]
theorem clean_after {d : Dk} (h : ∀ k, d.u k = none) (l : List Int) : d.after l = d.safe := by
  unfold Dk.after Dk.safe
  rw [clean_left h]
theorem clean_waiting {d : Dk} (h : ∀ k, d.u k = none) : d.waiting = [] := by
  unfold Dk.waiting
  have : (List.range d.n).filter (fun k => (d.u k).isSome) = [] := List.filter_eq_nil_iff.2 (fun k _ => by rw [h]; simp)
  rw [this]
  rfl
theorem die_clean (d : Dk) (l : List Int) : ∀ k, (d.die l).u k = none := fun k => rfl
theorem newD_image {t : ByteArray} (h : newE t = 0) : (newD t).image = t := by
  have h1 := newD_size h
  rw [clean_image (fun k => rfl)]
  unfold Dk.safe
  show bs (at8 t) 0 (128 * (newD t).n) = t
  exact bs_all' h1
theorem newE_of {t : ByteArray} {n : Nat} (h : t.size = 128 * n) (h1 : 1 ≤ n) (h2 : n ≤ 4096) : newE t = 0 := by
  unfold newE
  rw [if_neg (by omega)]
/-- What DiskAgain's calls tell. -/
structure AgC (w : World) (p : Nat) (D0 D1 D2 D3 D4 DC : Dk) (N : Nat) (IM : ByteArray) (CA CB : Option Addr) (na ca nb cb : Nat) : Prop where
  crash : ∀ W, Dd w W p D0 → Calls Try.prog 32 #[ptr p, .slice CA na ca] W fun e w' => e = .returned (.int .i64 0) ∧ Dd w w' p D1
  im : ∀ W, Dd w W p D1 → Calls Try.prog 28 #[ptr p] W fun e w' => e = .returned (.string IM) ∧ Dd w w' p D1
  rev : ∀ W, Dd w W p D1 → Calls Try.prog 33 #[ptr p] W fun e w' => e = .returned (.tuple #[]) ∧ Dd w w' p D2
  wait : ∀ W, Dd w W p D2 → Calls Try.prog 50 #[ptr p] W fun e w' => ∃ A, e = .returned (.slice A 0 0) ∧ Dd w w' p D2
  after : ∀ W, Dd w W p D2 → Calls Try.prog 49 #[ptr p, .slice CB nb cb] W fun e w' => e = .returned (.string IM) ∧ Dd w w' p D2
  count : ∀ W, Dd w W p D2 → Calls Try.prog 29 #[ptr p] W fun e w' => e = .returned (.int .i64 N) ∧ Dd w w' p D2
  flush : ∀ W, Dd w W p D2 → Calls Try.prog 48 #[ptr p, .int .i64 0, .int .i64 N] W fun e w' => e = .returned (.int .i64 0) ∧ Dd w w' p D3
  crash2 : ∀ W, Dd w W p D3 → Calls Try.prog 32 #[ptr p, .slice CB nb cb] W fun e w' => e = .returned (.int .i64 0) ∧ Dd w w' p D4
  im2 : ∀ W, Dd w W p D4 → Calls Try.prog 28 #[ptr p] W fun e w' => e = .returned (.string IM) ∧ Dd w w' p D4
  sf : ∀ W, Dd w W p D4 → Calls Try.prog 31 #[ptr p] W fun e w' => e = .returned (.string IM) ∧ Dd w w' p D4
  new : ∀ W, Dd w W p D4 → Calls Try.prog 22 #[.string IM] W fun e w' => ∃ q, e = .returned (.tuple #[ptr q, .int .i64 0]) ∧ Dd w w' q DC
  imc : ∀ W q, Dd w W q DC → Calls Try.prog 28 #[ptr q] W fun e w' => e = .returned (.string IM) ∧ Dd w w' q DC
  fixed : ∀ W q, Dd w W q DC → Calls Try.prog 46 #[] W fun e w' => e = .returned (.bool true) ∧ Dd w w' q DC
theorem crash_calm {d : Dk} (h : d.dead = false) (l : List Int) : d.crashE = 0 ∧ d.crashS l = d.die l := by
  unfold Dk.crashE Dk.crashS
  rw [h]
  exact ⟨rfl, rfl⟩
theorem agC {w0 w : World} {p : Nat} {D : Dk} (hd : Dd w0 w p D) (hc : D.Calm) {CA CB : Option Addr} {na ca nb cb : Nat} {la lb : List Int} (hza : Zw w0 (.slice CA na ca) la) (hzb : Zw w0 (.slice CB nb cb) lb) :
    ∃ D1 D2 D3 D4 DC IM, AgC w0 p D D1 D2 D3 D4 DC D.n IM CA CB na ca nb cb := by
  have hok := hd.ok
  have hn1 := hok.n1
  have hn2 := hok.n2
  obtain ⟨c1, c2⟩ := crash_calm hc.d la
  have hcal : (D.die la).revive.Calm := ⟨rfl, rfl⟩
  have hcl : ∀ k, (D.die la).revive.u k = none := fun k => rfl
  obtain ⟨f1, f2⟩ := flush_ok hcal 0 D.n (by show 0 + D.n ≤ D.n; omega)
  have hset : ((D.die la).revive.settle 0 D.n).safe = (D.die la).safe := by
    unfold Dk.safe
    refine bs_congr (n := 128 * D.n) fun i hi => ?_
    show (if _ then rdB (D.die la).revive _ else (D.die la).s _) = (D.die la).s _
    rw [← left_rd, clean_left hcl]
    split <;> rfl
  obtain ⟨d1, d2⟩ := crash_calm (d := (D.die la).revive.settle 0 D.n) rfl lb
  have hset2 : (((D.die la).revive.settle 0 D.n).die lb).safe = (D.die la).safe := by
    rw [← hset]
    have := clean_after (d := (D.die la).revive.settle 0 D.n) (fun k => by show (if _ then none else none) = none; split <;> rfl) lb
    exact this
  have hne : newE (D.die la).safe = 0 := newE_of (n := D.n) (safe_size _) hn1 hn2
  refine ⟨D.die la, (D.die la).revive, (D.die la).revive.settle 0 D.n, ((D.die la).revive.settle 0 D.n).die lb, newD (D.die la).safe, (D.die la).safe, ?_⟩
  exact {
    crash := fun W h => (h.crash (hza.fr h.fr (NoZ.nil _))).mono fun e w' ⟨he, hw⟩ => ⟨by rw [he, c1], by rw [c2] at hw; exact hw⟩
    im := fun W h => h.image_.mono fun e w' ⟨he, hw⟩ => ⟨by rw [he, clean_image (die_clean _ _)], hw⟩
    rev := fun W h => h.revive
    wait := fun W h => h.length.mono fun e w' ⟨A, he, hw⟩ => ⟨A, by rw [he, clean_waiting hcl]; rfl, hw⟩
    after := fun W h => (h.after_ hzb).mono fun e w' ⟨he, hw⟩ => ⟨by rw [he, clean_after hcl]; rfl, hw⟩
    count := fun W h => h.count.mono fun e w' ⟨he, hw⟩ => ⟨he, hw ▸ h⟩
    flush := fun W h => (h.flush 0 D.n (by omega) (by omega)).mono fun e w' ⟨he, hw⟩ => ⟨by rw [he]; exact ret_int f1, by
      have h2 : (D.die la).revive.flushS 0 (D.n : Int) = (D.die la).revive.settle 0 (0 + D.n) := f2
      rw [h2, Nat.zero_add] at hw
      exact hw⟩
    crash2 := fun W h => (h.crash (hzb.fr h.fr (NoZ.nil _))).mono fun e w' ⟨he, hw⟩ => ⟨by rw [he, d1], by rw [d2] at hw; exact hw⟩
    im2 := fun W h => h.image_.mono fun e w' ⟨he, hw⟩ => ⟨by rw [he, clean_image (die_clean _ _), hset2], hw⟩
    sf := fun W h => h.safe.mono fun e w' ⟨he, hw⟩ => ⟨by rw [he, hset2], hw ▸ h⟩
    new := fun W h => (Dd.new _ W hne).mono fun e w' ⟨q, he, hw⟩ => ⟨q, he, hw.base h.fr⟩
    imc := fun W q h => h.image_.mono fun e w' ⟨he, hw⟩ => ⟨by rw [he, newD_image hne], hw⟩
    fixed := fun W q h => h.fixed }
set_option maxRecDepth 100000 in
set_option maxHeartbeats 4000000 in
theorem again_walk (t : ByteArray) (w : World) (A : Option Addr) (n cap : Nat) (ops : Nat → OpD) (x : Int) (CA CB : Option Addr) (na ca nb cb : Nat) (la lb : List Int) (ht : t.size ≤ maxLen) (ho : OpsD w (.slice A n cap) n ops)
    (hza : Zw w (.slice CA na ca) la) (hzb : Zw w (.slice CB nb cb) lb) :
    Calls Try.prog 12 #[.string t, .slice A n cap, .agg #[.int .i64 x, .slice CA na ca, .slice CB nb cb]] w fun e w' => e = .returned (.bool true) ∧ Fr [] w w' := by
  have hf0 : Fr [] w (w.alloc (.cells #[.int .i64 x, .slice CA na ca, .slice CB nb cb] 87)) := (Fr.refl [] w).alloc _
  have hb0 := Blk.new w 87 #[.int .i64 x, .slice CA na ca, .slice CB nb cb]
  have Hf0 := Lib.hid hf0
  by_cases h0 : newE t = 0
  · have HM0 := Lib.hid (made_ok t _ A n cap ops ht (ho.fr hf0) h0)
    have HB := Lib.hid (fun W (hf : Fr [] (w.alloc (.cells #[.int .i64 x, .slice CA na ca, .slice CB nb cb] 87)) W) => (show W.cell? ⟨w.heap.size, 1, none⟩ = some (.slice CA na ca) ∧ W.cell? ⟨w.heap.size, 2, none⟩ = some (.slice CB nb cb) from ⟨hf.cell_some (hb0.cell 1) (by simp), hf.cell_some (hb0.cell 2) (by simp)⟩))
    have HZ := Lib.hid (And.intro (hza.fr hf0 (NoZ.nil _)) (hzb.fr hf0 (NoZ.nil _)))
    clear ho hza hzb h0 ht hf0 hb0
    go_enter Try.func12, Try.ntmps12
    go_wp2_with (first
      | (go_at_call 45; refine HM0.out.mono ?_; rintro e w1 ⟨p, D, rfl, hd, hc, hts⟩; obtain ⟨D1, D2, D3, D4, DC, IM, hC⟩ := agC hd hc HZ.out.1 HZ.out.2; have K := Lib.hid hC; generalize D.n = N at *; obtain ⟨k1, k2⟩ := HB.out _ hd.fr; clear hC hc HM0)
      | (go_at_call 32; first | (have hq := K.out.crash _ hd; clear hd k1 k2; refine hq.mono ?_; rintro e w2 ⟨rfl, hd⟩; clear hq) | (have hq := K.out.crash2 _ hd; clear hd k1 k2; refine hq.mono ?_; rintro e w9 ⟨rfl, hd⟩; clear hq))
      | (go_at_call 28; first | (have hq := K.out.im _ hd; clear hd; refine hq.mono ?_; rintro e w3 ⟨rfl, hd⟩; clear hq) | (have hq := K.out.im2 _ hd; clear hd; refine hq.mono ?_; rintro e w10 ⟨rfl, hd⟩; clear hq) | (have hq := K.out.imc _ _ hd; clear hd; refine hq.mono ?_; rintro e w13 ⟨rfl, hd⟩; clear hq))
      | (go_at_call 33; have hq := K.out.rev _ hd; clear hd; refine hq.mono ?_; rintro e w4 ⟨rfl, hd⟩; clear hq)
      | (go_at_call 50; have hq := K.out.wait _ hd; clear hd; refine hq.mono ?_; rintro e w5 ⟨A5, rfl, hd⟩; clear hq; obtain ⟨k1, k2⟩ := HB.out _ hd.fr)
      | (go_at_call 49; have hq := K.out.after _ hd; clear hd k1 k2; refine hq.mono ?_; rintro e w6 ⟨rfl, hd⟩; clear hq)
      | (go_at_call 29; have hq := K.out.count _ hd; clear hd; refine hq.mono ?_; rintro e w7 ⟨rfl, hd⟩; clear hq)
      | (go_at_call 48; have hq := K.out.flush _ hd; clear hd; refine hq.mono ?_; rintro e w8 ⟨rfl, hd⟩; clear hq; obtain ⟨k1, k2⟩ := HB.out _ hd.fr)
      | (go_at_call 31; have hq := K.out.sf _ hd; clear hd; refine hq.mono ?_; rintro e w11 ⟨rfl, hd⟩; clear hq)
      | (go_at_call 22; have hq := K.out.new _ hd; clear hd; refine hq.mono ?_; rintro e w12 ⟨q, rfl, hd⟩; clear hq)
      | (go_at_call 46; have hq := K.out.fixed _ _ hd; clear hd; refine hq.mono ?_; rintro e w14 ⟨rfl, hd⟩; clear hq))
    go_ret
    exact ⟨rfl, Hf0.out.trans hd.fr⟩
  · have HM0 := Lib.hid (made_bad t _ A n cap ops ht (ho.fr hf0) h0)
    have HN := Lib.hid (fun W => none_walk t W h0 ht)
    have HFx := Lib.hid fixed07_any
    clear ho hza hzb h0 ht hf0 hb0
    go_enter Try.func12, Try.ntmps12
    go_wp2_with (first
      | (go_at_call 45; refine HM0.out.mono ?_; rintro e w1 ⟨rfl, hf1⟩)
      | (go_at_call 35; refine (HN.out _).mono ?_; rintro e w2 ⟨rfl, hf2⟩)
      | (go_at_call 46; refine (HFx.out _).mono ?_; rintro e w3 ⟨rfl, hf3⟩))
    go_ret
    exact ⟨rfl, Hf0.out.trans (hf1.trans (hf2.trans hf3))⟩
end Go.Proofs.Ythmnloapjdalpaa

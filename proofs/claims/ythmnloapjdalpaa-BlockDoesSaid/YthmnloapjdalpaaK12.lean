/- The reference's disk: Waiting; Same. tells: two disks show the same. -/
import Derived.Test.YthmnloapjdalpaaK5
import Derived.Test.YthmnloapjdalpaaK10
namespace Go.Proofs.Ythmnloapjdalpaa
open Go.RowKit
set_option linter.unusedVariables false
set_option linter.unusedSimpArgs false
/-- The unsafe sectors ahead of i. -/
def wtT (d : Dk) (i : Nat) : List Int := ((List.range i).filter fun k => (d.u k).isSome).map fun (k : Nat) => (k : Int)
theorem wtT_len (d : Dk) (i : Nat) : (wtT d i).length ≤ i := by
  unfold wtT
  rw [List.length_map]
  exact Nat.le_trans (List.length_filter_le _ _) (by rw [List.length_range]; exact Nat.le_refl _)
theorem wtT_some {d : Dk} {i : Nat} (h : (d.u i).isSome = true) : wtT d (i + 1) = wtT d i ++ [(i : Int)] := by
  unfold wtT
  rw [List.range_succ, List.filter_append, List.map_append]
  simp [h]
theorem wtT_none {d : Dk} {i : Nat} (h : (d.u i).isSome = false) : wtT d (i + 1) = wtT d i := by
  unfold wtT
  rw [List.range_succ, List.filter_append, List.map_append]
  simp [h]
set_option maxRecDepth 100000 in
theorem rWaiting_any (q : Nat) (d : Dk) (w : World) (h : RD w q d) : Calls Try.prog 99 #[ptr q] w fun e w' => ∃ A cap, e = .returned (.slice A d.waiting.length cap) ∧ Zs w' (.slice A d.waiting.length cap) d.waiting ∧ Fr [] w w' := by
  obtain ⟨A0, cap0, cv, L, hb, hl, ha, hc, hA⟩ := h.form
  obtain ⟨i0, hi0, hz0, hz1, hz2⟩ := info3 Try.info3
  have hn1 := h.ok.n1
  have hn2 := h.ok.n2
  obtain ⟨N, hN⟩ : ∃ N, d.n = N := ⟨_, rfl⟩
  have HW : Hid (wtT d N = d.waiting) := Lib.hid (by rw [← hN]; rfl)
  rw [← HW.out]
  have HC := Lib.hid (fun W (hf : Fr [] w W) => (show W.cell? ⟨q, 0, none⟩ = some (.slice (some A0) N cap0) from by rw [← hN]; exact hf.cell_some (hb.cell 0) (by simp)))
  have HG := Lib.hid (fun i (hi : i < N) => ha.get (i := i) (by rw [hN]; exact hi))
  have HL := Lib.hid (fun W (hf : Fr [] w W) i o (hi : L[i]? = some o) => (hl.fr hf (NoO.nil _)).cell hi)
  have Hst : Hid ((w.alloc (.cells #[] 3)).ownsRow w.heap.size 3 1 (.slice (some ⟨w.heap.size, 0, none⟩) 0 0) 0 [] ∧ Fr [] w (w.alloc (.cells #[] 3))) := Lib.hid ⟨World.ownsRow_made w #[] 0 (Nat.le_refl _) (by simp [maxLen]) (by simp), (Fr.refl [] w).alloc _⟩
  rw [hN] at hn1 hn2
  clear h hb hl ha hc hN
  obtain ⟨ab, ao, asp⟩ := A0
  simp only at hA
  subst hA
  go_enter Try.func99, Try.ntmps99
  go_wp2_with fail
  go_loopg [3, 4] N (fun gg vo vi wr => ∃ (k : Nat), k + gg = N ∧ vi = .int .i64 (k : Int) ∧ wr.ownsRow w.heap.size 3 1 vo (wtT d k).length (ints (wtT d k)) ∧ Fr [] w wr)
  case atStart => exact ⟨0, by omega, rfl, Hst.out⟩
  case round =>
    obtain ⟨k, hk, rfl, ho, hf⟩ := hrel
    have Hk := Lib.hid hk
    have Hf := Lib.hid hf
    obtain ⟨Ao, co, rfl⟩ := own_shape ho
    have HO := Lib.hid ho
    have c0 := HC.out _ hf
    clear hk ho
    by_cases hlt : k < N
    · have hlt' : (k : Int) < (N : Int) := by omega
      have hk0 : (0 : Int) ≤ (k : Int) := by omega
      have hwk : IntKind.i64.wrap ((k : Int) + 1) = (k : Int) + 1 := IntWalk.i64_in _ (by omega)
      obtain ⟨o, hLo, hOi⟩ := HG.out k hlt
      obtain ⟨q', o', hqa, hqlt, x0, x1, x2⟩ := HL.out _ hf _ _ hLo
      injection hqa with hqa
      injection hqa with e1 e2 _
      subst e1 e2
      have hun := hOi.2.1
      clear hLo hOi
      obtain ⟨sf, wr_, un⟩ := o
      simp only at hun
      simp only [oc0, oc1, oc2] at x0 x1 x2
      cases un with
      | false =>
        have HN := Lib.hid (wtT_none hun.symm)
        clear hun
        go_wp2_with fail
        go_roundg (N - (k + 1))
        case measure => have := Hk.out; omega
        case rel => exact ⟨k + 1, by have := Hk.out; omega, by go_num, by rw [HN.out]; exact HO.out, Hf.out⟩
      | true =>
        have HN := Lib.hid (wtT_some hun.symm)
        have HLn := Lib.hid (wtT_len d k)
        have HEnd := Lib.hid (fun (v' : Value) (w' : World) (h1 : w'.ownsRow w.heap.size 3 1 v' ((wtT d k).length + 1) (ints (wtT d k) ++ [.int .i64 (k : Int)])) => (show w'.ownsRow w.heap.size 3 1 v' (wtT d (k + 1)).length (ints (wtT d (k + 1))) from by
          rw [HN.out, List.length_append]
          unfold ints at h1 ⊢
          rw [List.map_append]
          exact h1))
        have hm1 : (wtT d k).length + 1 ≤ maxLen := by have := HLn.out; simp only [maxLen]; omega
        have hm2 : ((wtT d k).length + 1) * 8 ≤ 140737488355328 := by have := HLn.out; omega
        have Hsz : w.heap.size ≤ (wr.alloc (.cells #[.int .i64 (k : Int)] 3)).heap.size := by have := hf.size; simp; omega
        have HO2 := Lib.hid (own_fr HO.out ((Fr.refl [] wr).alloc (.cells #[.int .i64 (k : Int)] 3)) (by simp))
        have Hf2 := Lib.hid (Hf.out.alloc (.cells #[.int .i64 (k : Int)] 3))
        have Hns := Lib.hid (news1 ((Blk.new wr 3 #[.int .i64 (k : Int)]).cell 0))
        clear hun HN HLn HO
        generalize ints (wtT d k) = XS at *
        generalize (wtT d k).length = M at *
        go_wp2_with (at_builtin; go_must (refine wpList_append_own _ rfl (.tmp 23) (.tmp 25) 42 rfl w.heap.size 3 i0 (.int .i64 0) 1 8 Try.underlying42 hi0 hz0 hz1 hz2 rfl (Nat.succ_pos 0) (.slice Ao M co) M XS rfl HO2.out ⟨wr.heap.size, 0, none⟩ 1 1 [.int .i64 (k : Int)] rfl rfl Hns.out (by simp [Value.oneCell']) hm1 hm2 Hsz ?_; intro v3 w3 hown3 hg3 hnn3; have hf3 := Hf2.out.own HO2.out hg3; have hE3 := Lib.hid (HEnd.out _ _ hown3); have Hf3 := Lib.hid hf3; clear hf3 hown3 hg3 hnn3))
        go_roundg (N - (k + 1))
        case measure => have := Hk.out; omega
        case rel => exact ⟨k + 1, by have := Hk.out; omega, by go_num, hE3.out, Hf3.out⟩
    · have hlt' : ¬ (k : Int) < (N : Int) := by omega
      obtain rfl : N = k := by have := Hk.out; omega
      go_wp2_with fail
      go_ret
      exact ⟨Ao, co, rfl, Zs.of_own HO.out rfl, Hf.out⟩
set_option maxRecDepth 100000 in
/-- The same numbers. -/
theorem same_any (A B : Option Addr) (n cA cB : Nat) (l : List Int) (w : World) (ha : Zw w (.slice A n cA) l) (hb : Zw w (.slice B n cB) l) : Calls Try.prog 98 #[.slice A n cA, .slice B n cB] w fun e w' => e = .returned (.bool true) ∧ Fr [] w w' := by
  obtain ⟨hn, hnc, hcm⟩ := ha.len
  have hmx : n ≤ 9223372036854775807 := by simp only [maxLen] at hcm; omega
  have HA := Lib.hid (fun W (hf : Fr [] w W) => ha.fr hf (NoZ.nil _))
  have HB := Lib.hid (fun W (hf : Fr [] w W) => hb.fr hf (NoZ.nil _))
  have Hn := Lib.hid hn
  clear ha hb hn hnc hcm
  go_enter Try.func98, Try.ntmps98
  go_wp2_with fail
  go_loopg [5] n (fun gg vi wr => ∃ (k : Nat), k + gg = n ∧ vi = .int .i64 (k : Int) ∧ Fr [] w wr)
  case atStart => exact ⟨0, by omega, rfl, Fr.refl _ _⟩
  case round =>
    obtain ⟨k, hk, rfl, hf⟩ := hrel
    have Hk := Lib.hid hk
    have Hf := Lib.hid hf
    by_cases hlt : k < n
    · have hlt' : (k : Int) < (n : Int) := by omega
      have hk0 : (0 : Int) ≤ (k : Int) := by omega
      have hwk : IntKind.i64.wrap ((k : Int) + 1) = (k : Int) + 1 := IntWalk.i64_in _ (by omega)
      have hx : l[k]? = some (l[k]'(by have := Hn.out; omega)) := List.getElem?_eq_getElem (by have := Hn.out; omega)
      generalize l[k]'(by have := Hn.out; omega) = x at hx
      obtain ⟨q, o, rfl, hq, hc⟩ := (HA.out _ hf).cell hx
      obtain ⟨q2, o2, rfl, hq2, hc2⟩ := (HB.out _ hf).cell hx
      clear hx hk hf
      go_wp2_with fail
      go_region
      go_wp2_with fail
      go_roundg (n - (k + 1))
      case measure => have := Hk.out; omega
      case rel => exact ⟨k + 1, by have := Hk.out; omega, by go_num, Hf.out.drew⟩
    · have hlt' : ¬ (k : Int) < (n : Int) := by omega
      go_wp2_with fail
      go_ret
      exact ⟨rfl, Hf.out⟩
end Go.Proofs.Ythmnloapjdalpaa
namespace Go.Proofs.Ythmnloapjdalpaa
open Go.RowKit
set_option linter.unusedVariables false
set_option linter.unusedSimpArgs false
/-- What the calls say that tell nothing new of a pair. -/
structure TellC (w : World) (p q n cap : Nat) (A : Addr) (dd : Bool) (IM SF : ByteArray) : Prop where
  i : ∀ W, Fr [] w W → Calls Try.prog 28 #[ptr p] W fun e w' => e = .returned (.string IM) ∧ Fr [] w w'
  ri : ∀ W, Fr [] w W → Calls Try.prog 43 #[ptr q] W fun e w' => e = .returned (.string IM) ∧ Fr [] w w'
  s : ∀ W, Fr [] w W → Calls Try.prog 31 #[ptr p] W fun e w' => e = .returned (.string SF) ∧ Fr [] w w'
  rs : ∀ W, Fr [] w W → Calls Try.prog 44 #[ptr q] W fun e w' => e = .returned (.string SF) ∧ Fr [] w w'
  d : ∀ W, Fr [] w W → Calls Try.prog 66 #[ptr p] W fun e w' => e = .returned (.bool dd) ∧ Fr [] w w'
  c : ∀ W, Fr [] w W → Calls Try.prog 29 #[ptr p] W fun e w' => e = .returned (.int .i64 (n : Int)) ∧ Fr [] w w'
  q : ∀ W, Fr [] w W → W.cell? ⟨q, 3, none⟩ = some (.bool dd) ∧ W.cell? ⟨q, 0, none⟩ = some (.slice (some A) n cap)
theorem Prz.tellC {z : List Nat} {w0 w : World} {p q : Nat} {d : Dk} (h : Prz z w0 w p q d d) : ∃ n cap A IM SF, TellC w p q n cap A d.dead IM SF := by
  obtain ⟨A, cap, cv, l, hb, hl, ha, hc, hA⟩ := h.y.form
  refine ⟨d.n, cap, A, d.image, d.safe, ⟨fun W hf => ?_, fun W hf => ?_, fun W hf => ?_, fun W hf => ?_, fun W hf => ?_, fun W hf => ?_, fun W hf => ?_⟩⟩
  · exact (h.to hf).image.mono fun e w' ⟨he, _, h2⟩ => ⟨he, hf.trans h2⟩
  · exact (h.to hf).rimage.mono fun e w' ⟨he, _, h2⟩ => ⟨he, hf.trans h2⟩
  · exact (h.to hf).safe.mono fun e w' ⟨he, _, h2⟩ => ⟨he, hf.trans h2⟩
  · exact (h.to hf).rsafe.mono fun e w' ⟨he, _, h2⟩ => ⟨he, hf.trans h2⟩
  · exact (h.to hf).dead.mono fun e w' ⟨he, _, h2⟩ => ⟨he, hf.trans h2⟩
  · exact (h.to hf).count.mono fun e w' ⟨he, _, h2⟩ => ⟨he, hf.trans h2⟩
  · exact ⟨hf.cell_some (hb.cell 3) (by simp), hf.cell_some (hb.cell 0) (by simp)⟩
/-- What the waiting ones are. -/
structure TellW (w : World) (p q : Nat) (l : List Int) : Prop where
  x : Calls Try.prog 50 #[ptr p] w (WaitP w l)
  r : ∀ W, Fr [] w W → Calls Try.prog 99 #[ptr q] W fun e w' => ∃ A cap, e = .returned (.slice A l.length cap) ∧ Zs w' (.slice A l.length cap) l ∧ Fr [] W w'
  n : l.length ≤ 4096
theorem Prz.tellW {z : List Nat} {w0 w : World} {p q : Nat} {d : Dk} (h : Prz z w0 w p q d d) : TellW w p q d.waiting := by
  refine ⟨h.waiting, fun W hf => rWaiting_any q d W (h.y.to hf), ?_⟩
  have := waiting_len d
  have := h.y.ok.n2
  omega
/-- The row that is written over. -/
def LpI (w wr : World) (A : Option Addr) (n : Nat) : Prop := 0 < n → ∃ g, A = some ⟨g, 0, none⟩ ∧ w.heap.size ≤ g ∧ ∃ cs, Blk wr g 3 cs ∧ n ≤ cs.size
theorem ZOwn.lp {w w1 w3 : World} {A : Option Addr} {n : Nat} {l : List Int} (h : ZOwn w.heap.size w1 (.slice A n n) l) (hn : n = l.length) (hf : Fr [] w1 w3) : LpI w w3 A n := by
  intro h0
  rcases h with ⟨rfl, -⟩ | ⟨g, cs, e, h1, h2, h3, h4⟩
  · rw [hn] at h0
    simp at h0
  · injection e with e _ _
    refine ⟨g, e, h2, cs, h3.fr hf (by simp), ?_⟩
    have hx : l[n - 1]? = some (l[n - 1]'(by omega)) := List.getElem?_eq_getElem (by omega)
    have := (Array.getElem?_eq_some_iff.1 (h4 _ _ hx)).1
    omega
theorem LpI.step {w wr : World} {A : Option Addr} {n k : Nat} (h : LpI w wr A n) (hk : k < n) (u : Value) (hf : Fr [] w wr) : ∃ g, A = some ⟨g, 0, none⟩ ∧ wr.frozen? ⟨g, k, none⟩ = false ∧ (∃ u0, wr.cell? ⟨g, k, none⟩ = some u0) ∧ LpI w (wr.setCell ⟨g, k, none⟩ u) A n ∧ Fr [] w (wr.setCell ⟨g, k, none⟩ u) := by
  obtain ⟨g, rfl, hg, cs, hb, hn⟩ := h (by omega)
  refine ⟨g, rfl, hb.frozen k, ⟨cs[k]'(by omega), by rw [hb.cell]; exact Array.getElem?_eq_getElem (by omega)⟩, fun _ => ⟨g, rfl, hg, _, hb.set_ k u, by simpa using hn⟩, hf.setCell (.inr hg) u⟩
set_option maxRecDepth 100000 in
set_option maxHeartbeats 2000000 in
theorem tells_any {z : List Nat} {w0 w : World} {p q : Nat} {d : Dk} (h : Prz z w0 w p q d d) : Calls Try.prog 52 #[ptr p, ptr q] w fun e w' => e = .returned (.bool true) ∧ Fr [] w w' := by
  obtain ⟨N, cap, A, IM, SF, HC⟩ := h.tellC
  have HW := h.tellW
  clear h
  generalize d.waiting = l at *
  generalize d.dead = dd at *
  have H50 := Lib.hid HW.x
  have H99 := Lib.hid HW.r
  have hl := HW.n
  have HCC := Lib.hid HC
  have HD := Lib.hid HC.q
  clear HW HC
  go_enter Try.func52, Try.ntmps52
  go_upto_region 3 with (first
    | (go_at_call 98; refine (same_any A1 A2 l.length l.length cap2 l _ (hz1.out.zs.zw.fr hf2.out (NoZ.nil _)) hz2.out.zw).mono ?_; rintro e w3 ⟨rfl, hf3⟩; have Hf3 := Lib.hid ((Hf1.out.trans hf2.out).trans hf3); have Hg3 := Lib.hid (hf2.out.trans hf3); clear hf3)
    | (go_at_call 99; refine (H99.out _ Hf1.out).mono ?_; rintro e w2 ⟨A2, cap2, rfl, hz2, hf2⟩; have hz2 := Lib.hid hz2; have hf2 := Lib.hid hf2)
    | (go_at_call 50; refine H50.out.mono ?_; rintro e w1 ⟨A1, rfl, hz1, hf1⟩; have hz1 := Lib.hid hz1; have Hf1 := Lib.hid hf1; clear hf1))
  have HL3 := Lib.hid (hz1.out.lp rfl Hg3.out)
  clear hz1 hz2 hf2 Hf1 Hg3
  have hl' : (l.length : Int) ≤ 4096 := by omega
  generalize l.length = n at *
  go_wp2_with fail
  go_loopg [7] n (fun gg vi wr => ∃ (k : Nat), k + gg = n ∧ vi = .int .i64 (k : Int) ∧ Fr [] w wr ∧ LpI w wr A1 n)
  case atStart => exact ⟨0, by omega, rfl, Hf3.out, HL3.out⟩
  case round =>
    obtain ⟨k, hk, rfl, hf, hL⟩ := hrel
    have Hk := Lib.hid hk
    by_cases hlt : k < n
    · have hlt' : (k : Int) < (n : Int) := by omega
      have hk0 : (0 : Int) ≤ (k : Int) := by omega
      have hwk : IntKind.i64.wrap ((k : Int) + 1) = (k : Int) + 1 := IntWalk.i64_in _ (by omega)
      obtain ⟨g, rfl, fz, ⟨u0, x0⟩, hL', hf'⟩ := hL.step hlt (.int .i64 (-1)) hf
      have HL' := Lib.hid hL'
      have Hf' := Lib.hid hf'
      clear hL hf hL' hf' HL3 hk
      go_wp2_with fail
      go_roundg (n - (k + 1))
      case measure => have := Hk.out; omega
      case rel => exact ⟨k + 1, by have := Hk.out; omega, by go_num, Hf'.out, HL'.out⟩
    · have hlt' : ¬ (k : Int) < (n : Int) := by omega
      clear hL hk HL3
      go_wp2_with fail
      have hf := hf.drew
      have k0 := HD.out _ hf
      go_region_held3 (fun W => W.cell? ⟨q, 3, none⟩ = some (.bool dd) ∧ W.cell? ⟨q, 0, none⟩ = some (.slice (some A) N cap))
        (first | exact kk | exact k0) (first
        | (go_at_call 28; have hq := HCC.out.i _ hf; clear hf; refine hq.mono ?_; clear hq; rintro e w5 ⟨rfl, hf⟩; have kk := HD.out _ hf)
        | (go_at_call 43; have hq := HCC.out.ri _ hf; clear hf; refine hq.mono ?_; clear hq; rintro e w5 ⟨rfl, hf⟩; have kk := HD.out _ hf)
        | (go_at_call 31; have hq := HCC.out.s _ hf; clear hf; refine hq.mono ?_; clear hq; rintro e w5 ⟨rfl, hf⟩; have kk := HD.out _ hf)
        | (go_at_call 44; have hq := HCC.out.rs _ hf; clear hf; refine hq.mono ?_; clear hq; rintro e w5 ⟨rfl, hf⟩; have kk := HD.out _ hf)
        | (go_at_call 66; have hq := HCC.out.d _ hf; clear hf; refine hq.mono ?_; clear hq; rintro e w5 ⟨rfl, hf⟩; have kk := HD.out _ hf)
        | (go_at_call 29; have hq := HCC.out.c _ hf; clear hf; refine hq.mono ?_; clear hq; rintro e w5 ⟨rfl, hf⟩; have kk := HD.out _ hf))
      go_wp2_with fail
      go_ret
      exact ⟨rfl, hf⟩
end Go.Proofs.Ythmnloapjdalpaa

/- The reference's ports, each function by its contract on the same states. -/
import Derived.Test.YtblidpafeiiniaaBlind
import Derived.Test.YtblidpafeiiniaaLib2
namespace Go.Proofs.Ytblidpafeiiniaa
open Go.RowKit

theorem Sl.one1 {w : World} {e : TypeId} {g : Nat} {u : Value} (h : Blk w g e #[u]) : Sl w e 1 (.slice (some ⟨g, 0, none⟩) 1 1) 1 [u] :=
  ⟨rfl, .inr ⟨g, 0, 1, #[u], rfl, by omega, by simp [maxLen], h, fun j u' hu => by simpa using hu⟩⟩
theorem ret_sii {s : ByteArray} {a b c : Int} (h : a = b) : Ending.returned (.tuple #[.string s, .int .i64 a, .int .i64 c]) = .returned (.tuple #[.string s, .int .i64 b, .int .i64 c]) := by rw [h]
def txt (l : List (ByteArray × Int)) : List Value := l.map fun m => .string m.1
def tks (l : List (ByteArray × Int)) : List Value := l.map fun m => .int .i64 m.2
/-- At block q the reference's port is in state s. -/
def RAt (w : World) (q : Nat) (s : PS) : Prop :=
  ∃ lv tv, Blk w q 50 #[.int .i64 s.K, .int .i64 s.F, .int .i64 s.T, .int .i64 s.S, .int .i64 s.D, lv, tv, .int .i64 s.lost] ∧ Sl w 9 1 lv s.l.length (txt s.l) ∧ Sl w 3 1 tv s.l.length (tks s.l)
theorem RAt.fr {w w' : World} {q : Nat} {s : PS} {S : List Nat} (h : RAt w q s) (hf : Fr S w w') (hq : q ∉ S) (h9 : ∀ k, k ∈ S → ∀ cs, ¬ Blk w k 9 cs) (h3 : ∀ k, k ∈ S → ∀ cs, ¬ Blk w k 3 cs) : RAt w' q s :=
  let ⟨lv, tv, hb, hl, ht⟩ := h
  ⟨lv, tv, hb.fr hf hq, hl.fr hf h9, ht.fr hf h3⟩
theorem RAt.alloc {w : World} {q : Nat} {s : PS} (h : RAt w q s) (o : Obj) : RAt (w.alloc o) q s := h.fr (S := []) ((Fr.refl _ _).alloc _) (by simp) (by simp) (by simp)
theorem RAt.nots {w : World} {q : Nat} {s : PS} (h : RAt w q s) {t : TypeId} (ht : t ≠ 50) (cs : Array Value) : ¬ Blk w q t cs :=
  let ⟨_, _, hb, _⟩ := h
  fun hc => ht (hc.eq hb).1

def RNewOk (w : World) (s : PS) (e : Ending) (w' : World) : Prop :=
  ∃ q, e = .returned (.tuple #[ptr q, .int .i64 0]) ∧ w.heap.size ≤ q ∧ RAt w' q s ∧ Fr [] w w'
set_option maxHeartbeats 400000 in
theorem rnew_ok (K F T S D : Int) (w : World) (h : okC K F T S D = true) : Calls Try.prog 14 #[cfg K F T S D] w (RNewOk w (ps0 K F T S D)) := by
  have Hk := Lib.hid h; clear h
  unfold cfg
  go_enter Try.func14, Try.ntmps14
  go_wp2_with (go_at_call 8; refine (rcheck_ok K F T S D _ Hk.out).mono ?_; rintro e w1 ⟨rfl, hf1⟩; have hc := fun i => hf1.cell (p := ⟨w.heap.size, i, none⟩) (by simp) (by simp))
  go_ret2
  have hs := hf1.size
  simp at hs
  refine ⟨w1.heap.size, rfl, by omega, ⟨_, _, Blk.new _ _ _, Sl.nil _ _ _, Sl.nil _ _ _⟩, (((Fr.refl _ _).alloc _).trans hf1).alloc _⟩
set_option maxHeartbeats 400000 in
theorem rnew_no (K F T S D : Int) (w : World) (h : okC K F T S D = false) : Calls Try.prog 14 #[cfg K F T S D] w fun e w' => e = .returned (.tuple #[.pointer none, .int .i64 140]) ∧ Fr [] w w' := by
  have Hk := Lib.hid h; clear h
  unfold cfg
  go_enter Try.func14, Try.ntmps14
  go_wp2_with (go_at_call 8; refine (rcheck_no K F T S D _ Hk.out).mono ?_; rintro e w1 ⟨rfl, hf1⟩)
  go_ret2
  exact ⟨rfl, ((Fr.refl _ _).alloc _).trans (hf1.mono (by simp))⟩

set_option maxHeartbeats 400000 in
theorem rclear_any (q : Nat) (s : PS) (w : World) (h : RAt w q s) : Calls Try.prog 19 #[ptr q] w fun e w' => e = .returned (.tuple #[]) ∧ RAt w' q (clearS s) ∧ Fr [q] w w' := by
  obtain ⟨lv, tv, hb, -, -⟩ := h
  have h5 := hb.cell 5
  have h6 := hb.cell 6
  have h7 := hb.cell 7
  have hf := hb.frozen
  simp at h5 h6 h7
  go_enter Try.func19, Try.ntmps19
  go_wp2
  go_end0
  exact ⟨rfl, ⟨_, _, ((hb.set_ 5 _).set_ 6 _).set_ 7 _, Sl.nil _ _ _, Sl.nil _ _ _⟩, (((Fr.refl _ _).setCell (by simp) _).setCell (by simp) _).setCell (by simp) _⟩

def CopyPost (w : World) (s : PS) (e : Ending) (w' : World) : Prop := ∃ q, e = .returned (ptr q) ∧ w.heap.size ≤ q ∧ RAt w' q s ∧ Fr [] w w'
set_option maxHeartbeats 400000 in
theorem rcopy_any (q : Nat) (s : PS) (w : World) (h : RAt w q s) : Calls Try.prog 21 #[ptr q] w (CopyPost w s) := by
  have H := Lib.hid h
  obtain ⟨lv, tv, hb, hl, ht⟩ := h
  obtain ⟨A, cap, rfl, -⟩ := hl.shape
  obtain ⟨A', cap', rfl, -⟩ := ht.shape
  have Hl := Lib.hid hl
  have Ht := Lib.hid ht
  clear hl ht
  have hlt := hb.lt
  have g0 := hb.cell 0
  have g1 := hb.cell 1
  have g2 := hb.cell 2
  have g3 := hb.cell 3
  have g4 := hb.cell 4
  have g5 := hb.cell 5
  have g6 := hb.cell 6
  have g7 := hb.cell 7
  simp at g0 g1 g2 g3 g4 g5 g6 g7
  clear hb
  go_enter Try.func21, Try.ntmps21
  go_wp2
  go_ret
  have f1 : Fr [] w (w.alloc (.cells #[.int .i64 s.K, .int .i64 s.F, .int .i64 s.T, .int .i64 s.S, .int .i64 s.D, .slice A s.l.length cap, .slice A' s.l.length cap', .int .i64 s.lost] 50)) := (Fr.refl _ _).alloc _
  exact ⟨w.heap.size, rfl, Nat.le_refl _, ⟨_, _, Blk.new _ _ _, Hl.out.fr f1 (by simp), Ht.out.fr f1 (by simp)⟩, f1⟩

theorem place_eq (n m : Int) (hm : 0 < m) : n % m = if n.tmod m < 0 then n.tmod m + m else n.tmod m := by
  have e := Int.tmod_eq_emod (a := n) (b := m)
  have e0 := Int.emod_nonneg n (by omega : m ≠ 0)
  have e1 := Int.emod_lt_of_pos n hm
  by_cases h : 0 ≤ n ∨ m ∣ n
  · rw [if_pos h] at e
    rw [if_neg (by omega)]
    omega
  · rw [if_neg h] at e
    rw [if_pos (by omega)]
    omega
set_option maxHeartbeats 400000 in
theorem place_any (n m : Int) (w : World) (hm : 0 < m) (hm2 : m ≤ 4398046511105) (h1 : -9223372036854775808 ≤ n) (h2 : n ≤ 9223372036854775807) : Calls Try.prog 16 #[.int .i64 n, .int .i64 m] w fun e w' => e = .returned (.int .i64 (n % m)) ∧ w = w' := by
  have E := Lib.hid (place_eq n m hm)
  have hb : n.tmod m < m := by have := Int.tmod_lt_of_pos n hm; omega
  have hb2 : -m ≤ n.tmod m := by have e1 := Int.emod_nonneg n (by omega : m ≠ 0); have := E.out; split at this <;> omega
  by_cases h : n.tmod m < 0
  · by_cases h0 : 0 ≤ n
    · have e3 : n.tmod m = n % m := Int.tmod_eq_emod_of_nonneg h0
      have e4 := Int.emod_nonneg n (by omega : m ≠ 0)
      omega
    · have Hn := Lib.hid h
      go_enter Try.func16, Try.ntmps16
      go_wp2
      go_ret
      exact ⟨by rw [E.out, if_pos (by have := Hn.out; omega)]; rfl, rfl⟩
  · by_cases h0 : 0 ≤ n
    · have e3 : n.tmod m = n % m := Int.tmod_eq_emod_of_nonneg h0
      have e4 : 0 ≤ n % m := by omega
      clear hb hb2 h e3
      go_enter Try.func16, Try.ntmps16
      go_wp2
      go_ret
      exact ⟨rfl, rfl⟩
    · have h' : 0 ≤ n.tmod m := by omega
      have Hn := Lib.hid h
      go_enter Try.func16, Try.ntmps16
      go_wp2
      go_ret
      exact ⟨by rw [E.out, if_neg (by have := Hn.out; omega)]; rfl, rfl⟩
theorem Try.info9 : (Try.prog.info? 9).map (fun i => (i.zero, i.size, i.bytes)) = some (some (.string ByteArray.empty), 1, 16) := by kernel_rfl
theorem Try.info3' : (Try.prog.info? 3).map (fun i => (i.zero, i.size, i.bytes)) = some (some (.int .i64 0), 1, 8) := by kernel_rfl
theorem txt_len (l : List (ByteArray × Int)) : (txt l).length = l.length := by simp [txt]
theorem tks_len (l : List (ByteArray × Int)) : (tks l).length = l.length := by simp [tks]
theorem txt_one (l : List (ByteArray × Int)) : ∀ u ∈ txt l, u.oneCell' = true := by
  intro u hu; simp [txt] at hu; obtain ⟨a, b, _, rfl⟩ := hu; rfl
theorem tks_one (l : List (ByteArray × Int)) : ∀ u ∈ tks l, u.oneCell' = true := by
  intro u hu; simp [tks] at hu; obtain ⟨a, b, _, rfl⟩ := hu; rfl

set_option maxHeartbeats 400000 in
theorem rsend_tick (q : Nat) (w : World) (m : ByteArray) (t : Int) (h : t < 0 ∨ 1099511627776 < t) :
    Calls Try.prog 17 #[ptr q, .string m, .int .i64 t] w fun e w' => e = .returned (.int .i64 1) ∧ w = w' := by
  rcases h with h | h
  all_goals
    go_enter Try.func17, Try.ntmps17
    go_wp2
    go_ret
    exact ⟨rfl, rfl⟩
set_option maxHeartbeats 400000 in
theorem rsend_long (q : Nat) (s : PS) (w : World) (m : ByteArray) (t : Int) (h : RAt w q s) (h1 : 0 ≤ t) (h2 : t ≤ 1099511627776) (hl : s.S < m.size) (hm : m.size ≤ maxLen) :
    Calls Try.prog 17 #[ptr q, .string m, .int .i64 t] w fun e w' => e = .returned (.int .i64 141) ∧ w = w' := by
  obtain ⟨lv, tv, hb, -, -⟩ := h
  have h5 := hb.cell 3
  simp at h5
  unfold maxLen at hm
  clear hb
  go_enter Try.func17, Try.ntmps17
  go_wp2
  go_ret
  exact ⟨rfl, rfl⟩
set_option maxHeartbeats 400000 in
theorem rsend_keep (q : Nat) (s : PS) (w : World) (m : ByteArray) (t : Int) (h : RAt w q s) (h1 : 0 ≤ t) (h2 : t ≤ 1099511627776) (hl : m.size ≤ s.S) (hm : m.size ≤ maxLen) (hk : s.K = 0) :
    Calls Try.prog 17 #[ptr q, .string m, .int .i64 t] w fun e w' => e = .returned (.int .i64 0) ∧ RAt w' q { s with l := [(m, t)] } ∧ Fr [q] w w' := by
  obtain ⟨lv, tv, hb, -, -⟩ := h
  have g0 := hb.cell 0
  have g3 := hb.cell 3
  have g5 := hb.cell 5
  have g6 := hb.cell 6
  have hfz := hb.frozen
  have hlt := hb.lt
  have hlt1 : q < w.heap.size + 1 := by omega
  simp at g0 g3 g5 g6
  rw [hk] at g0
  unfold maxLen at hm
  have Hk := Lib.hid hk
  have Hb := Lib.hid hb
  clear hb hk
  go_enter Try.func17, Try.ntmps17
  go_wp2
  go_ret
  refine ⟨rfl, ⟨_, _, (((Hb.out.set_ 5 _).set_ 6 _).alloc _).alloc _, Sl.one1 (g := w.heap.size) ((Blk.new' (by simp)).alloc _), Sl.one1 (g := w.heap.size + 1) (Blk.new' (by simp))⟩, ((((Fr.refl _ _).setCell (by simp) _).setCell (by simp) _).alloc _).alloc _⟩

set_option maxHeartbeats 400000 in
theorem rsend_full (q : Nat) (s : PS) (w : World) (m : ByteArray) (t : Int) (h : RAt w q s) (h1 : 0 ≤ t) (h2 : t ≤ 1099511627776) (hl : m.size ≤ s.S) (hm : m.size ≤ maxLen) (hk : s.K = 1)
    (hf : (s.l.length : Int) = s.D) (hl0 : 0 ≤ s.lost) (hl2 : s.lost ≤ 4611686018427387904) :
    Calls Try.prog 17 #[ptr q, .string m, .int .i64 t] w fun e w' => e = .returned (.int .i64 0) ∧ RAt w' q { s with lost := s.lost + 1 } ∧ Fr [q] w w' := by
  obtain ⟨lv, tv, hb, hll, htt⟩ := h
  obtain ⟨A, cap, rfl, hc1, hc2, -⟩ := hll.shape
  have g0 := hb.cell 0
  have g3 := hb.cell 3
  have g4 := hb.cell 4
  have g5 := hb.cell 5
  have g7 := hb.cell 7
  have hfz := hb.frozen
  have hlt := hb.lt
  simp at g0 g3 g4 g5 g7
  rw [hk] at g0
  unfold maxLen at hm hc2
  have ht : decide (s.D ≤ (s.l.length : Int)) = true := by simp; omega
  have hD : s.D ≤ (s.l.length : Int) := by omega
  have Hk := Lib.hid hk
  have Hb := Lib.hid hb
  have Hl := Lib.hid hll
  have Ht := Lib.hid htt
  clear hb hk hll htt hf
  go_enter Try.func17, Try.ntmps17
  go_wp2
  go_quiet (fail)
  go_wp2
  go_ret
  have hfr : Fr [q] w ((w.drewN nq).setCell ⟨q, 7, none⟩ (.int .i64 (s.lost + 1))) := ((Fr.refl _ _).drewN nq).setCell (by simp) _
  exact ⟨rfl, ⟨_, _, (Hb.out.drewN nq).set_ 7 _, Hl.out.fr hfr (fun k hk cs hc => by simp at hk; subst hk; have := (hc.eq Hb.out).1; simp at this), Ht.out.fr hfr (fun k hk cs hc => by simp at hk; subst hk; have := (hc.eq Hb.out).1; simp at this)⟩, hfr⟩

set_option maxHeartbeats 1000000 in
theorem rsend_room (q : Nat) (s : PS) (w : World) (m : ByteArray) (t : Int) (h : RAt w q s) (h1 : 0 ≤ t) (h2 : t ≤ 1099511627776) (hl : m.size ≤ s.S) (hm : m.size ≤ maxLen) (hk : s.K = 1)
    (hf : (s.l.length : Int) < s.D) (hd : s.D ≤ 8) :
    Calls Try.prog 17 #[ptr q, .string m, .int .i64 t] w fun e w' => e = .returned (.int .i64 0) ∧ RAt w' q { s with l := s.l ++ [(m, t)] } ∧ Fr [q] w w' := by
  obtain ⟨lv, tv, hb, hll, htt⟩ := h
  obtain ⟨A, cap, rfl, hc1, hc2, -⟩ := hll.shape
  obtain ⟨A', cap', rfl, -⟩ := htt.shape
  have g0 := hb.cell 0
  have g3 := hb.cell 3
  have g4 := hb.cell 4
  have g5 := hb.cell 5
  have g6 := hb.cell 6
  have hfz := hb.frozen
  have hlt := hb.lt
  have hlt1 : q < w.heap.size + 1 := by omega
  simp at g0 g3 g4 g5 g6
  rw [hk] at g0
  unfold maxLen at hm hc2
  have ht : decide (s.D ≤ (s.l.length : Int)) = false := by simp; omega
  have hD : ¬ s.D ≤ (s.l.length : Int) := by omega
  have hn8 : s.l.length ≤ 8 := by omega
  have Hk := Lib.hid hk
  have Hb := Lib.hid hb
  have Hl := Lib.hid hll
  have Ht := Lib.hid htt
  obtain ⟨i9, hi9, hy0, hy1, hy2⟩ := info3 Try.info9
  obtain ⟨i3, hi3, hz0, hz1, hz2⟩ := info3 Try.info3'
  clear hb hk hll htt hf
  go_enter Try.func17, Try.ntmps17
  go_wp2
  go_quiet (fail)
  have Hfr0 := Lib.hid (((Fr.refl [] w).drewN nq).alloc (.cells #[] 9))
  have hm0 : ((w.drewN nq).alloc (.cells #[] 9)).ownsRow w.heap.size 9 1 (.slice (some ⟨w.heap.size, 0, none⟩) 0 0) 0 [] := World.ownsRow_made (w.drewN nq) #[] 0 (Nat.le_refl _) (by simp [maxLen]) (by simp)
  have Hm0 := Lib.hid hm0; clear hm0
  have gq5 := Hfr0.out.cell_some g5 (by simp)
  go_wp2_with (first
    | (at_builtin
       refine wpList_append_sl _ rfl (.tmp 56) (.tmp 60) 31 rfl w.heap.size 9 i9 (.string ByteArray.empty) 1 16 Try.underlying31 hi9 hy0 hy1 hy2 rfl (by decide) (.slice (some ⟨w.heap.size, 0, none⟩) 0 0) 0 [] rfl Hm0.out (.slice A s.l.length cap) s.l.length (txt s.l) rfl (Hl.out.fr Hfr0.out (by simp)) (txt_one _) (by simp only [maxLen]; omega) (by omega) (by simp) ?_
       intro v1 w1 hown1 hgrow1
       have hf1 := Hfr0.out.own Hm0.out hgrow1
       have hs1 : w.heap.size ≤ w1.heap.size := hf1.size)
    | (at_builtin
       refine wpList_append_own _ rfl (.tmp 61) (.tmp 63) 31 rfl w.heap.size 9 i9 (.string ByteArray.empty) 1 16 Try.underlying31 hi9 hy0 hy1 hy2 rfl (by decide) _ _ _ rfl (hown1.alloc _) ⟨w1.heap.size, 0, none⟩ 1 1 [.string m] rfl rfl (news1 (by simp [go_sem])) (by simp [Value.oneCell']) (by simp only [maxLen]; omega) (by omega) (by simp; omega) ?_
       go_must (
        (intro v2 w2 hown2 hgrow2 _
         obtain ⟨k2, p2, rfl⟩ : ∃ k p, v2 = .slice (some ⟨k, 0, none⟩) (s.l.length + 1) p := by simpa using own_succ hown2
         have hf2 := (hf1.alloc (.cells #[.string m] 9)).own (hown1.alloc _) hgrow2
         have q6 := hf2.cell_some g6 (by simp)
         have q5 := hf2.cell_some g5 (by simp)
         have hz2' := fun i => (hf2.frozen (p := ⟨q, i, none⟩) hlt (by simp)).trans (hfz i)
         have hs2 : w.heap.size ≤ w2.heap.size := hf2.size
         have hlt2 : q < w2.heap.size := by omega
         have hB2 : Blk w2 q 50 _ := Hb.out.fr hf2 (by simp)
         have HB3 := Lib.hid (((hB2.set_ 5 (.slice (some ⟨k2, 0, none⟩) (s.l.length + 1) p2)).alloc (.cells #[] 3)))
         have Hf3 := Lib.hid ((((hf2.mono (S' := [q]) (by simp)).setCell (p := ⟨q, 5, none⟩) (.inl (by simp)) (.slice (some ⟨k2, 0, none⟩) (s.l.length + 1) p2)).alloc (.cells #[] 3)))
         have hm3 : ((w2.setCell ⟨q, 5, none⟩ (.slice (some ⟨k2, 0, none⟩) (s.l.length + 1) p2)).alloc (.cells #[] 3)).ownsRow w.heap.size 3 1 (.slice (some ⟨w2.heap.size, 0, none⟩) 0 0) 0 [] := by
           have := World.ownsRow_made (e := 3) (size := 1) (base := w.heap.size) (w2.setCell ⟨q, 5, none⟩ (.slice (some ⟨k2, 0, none⟩) (s.l.length + 1) p2)) #[] 0 (by simp; omega) (by simp [maxLen]) (by simp)
           simpa using this
         have Hm3 := Lib.hid hm3
         have q6' := HB3.out.cell 6
         simp at q6'
         clear hm3 hB2)))
    | (at_builtin
       refine wpList_append_sl _ rfl (.tmp 68) (.tmp 72) 48 rfl w.heap.size 3 i3 (.int .i64 0) 1 8 Try.underlying48 hi3 hz0 hz1 hz2 rfl (by decide) (.slice (some ⟨w2.heap.size, 0, none⟩) 0 0) 0 [] rfl Hm3.out (.slice A' s.l.length cap') s.l.length (tks s.l) rfl (Ht.out.fr Hf3.out (fun k hk cs hc => (by simp at hk; subst hk; have := (hc.eq Hb.out).1; simp at this))) (tks_one _) (by simp only [maxLen]; omega) (by omega) (by simp; omega) ?_
       go_must (intro v4 w4 hown4 hgrow4; have hf4 := Hf3.out.own Hm3.out hgrow4; have hs4 : w.heap.size ≤ w4.heap.size := hf4.size))
    | (at_builtin
       refine wpList_append_own _ rfl (.tmp 73) (.tmp 75) 48 rfl w.heap.size 3 i3 (.int .i64 0) 1 8 Try.underlying48 hi3 hz0 hz1 hz2 rfl (by decide) _ _ _ rfl (hown4.alloc _) ⟨w4.heap.size, 0, none⟩ 1 1 [.int .i64 t] rfl rfl (news1 (by simp [go_sem])) (by simp [Value.oneCell']) (by simp only [maxLen]; omega) (by omega) (by simp; omega) ?_
       go_must (
        (intro v5 w5 hown5 hgrow5 _
         obtain ⟨k5, p5, rfl⟩ : ∃ k p, v5 = .slice (some ⟨k, 0, none⟩) (s.l.length + 1) p := by simpa using own_succ hown5
         have hf5 := (hf4.alloc (.cells #[.int .i64 t] 3)).own (hown4.alloc _) hgrow5
         have hs5 : w.heap.size ≤ w5.heap.size := hf5.size
         have hlt5 : q < w5.heap.size := by omega
         have hB5 := (HB3.out.fr (Fr.of_own hgrow4) (fun hk => (by obtain ⟨hge, _⟩ := own_blk Hm3.out _ hk; omega))).alloc (.cells #[.int .i64 t] 3)
         have HB6 := Lib.hid (hB5.fr (Fr.of_own hgrow5) (fun hk => (by obtain ⟨hge, _⟩ := own_blk (hown4.alloc (.cells #[.int .i64 t] 3)) _ hk; omega)))
         have q6'' := HB6.out.cell 6
         have hz6 := HB6.out.frozen
         simp at q6''
         clear hB5)))
    | fail)
  go_ret
  have hfr := hf5.setCell (p := ⟨q, 6, none⟩) (.inl (by simp)) (.slice (some ⟨k5, 0, none⟩) (s.l.length + 1) p5)
  have hne : ∀ {t : TypeId}, t ≠ 50 → ∀ {W : World}, Blk W q 50 (#[.int .i64 s.K, .int .i64 s.F, .int .i64 s.T, .int .i64 s.S, .int .i64 s.D, .slice A s.l.length cap, .slice A' s.l.length cap', .int .i64 s.lost].setIfInBounds 5 (.slice (some ⟨k2, 0, none⟩) (s.l.length + 1) p2)) → ∀ k, k ∈ [q] → ∀ cs, ¬ Blk W k t cs := by
    intro t ht W hW k hk cs hc
    simp at hk
    subst hk
    exact ht (hc.eq hW).1
  have l2 := Sl.of_own hown2
  have c2 : Fr [q] w2 ((w2.setCell ⟨q, 5, none⟩ (.slice (some ⟨k2, 0, none⟩) (s.l.length + 1) p2)).alloc (.cells #[] 3)) := ((Fr.refl _ _).setCell (by simp) _).alloc _
  have l3 := l2.fr c2 (fun k hk cs hc => by simp at hk; subst hk; have := (hc.eq (Hb.out.fr hf2 (by simp))).1; simp at this)
  have l4 := (l3.fr (Fr.of_own hgrow4) (fun k hk cs hc => by obtain ⟨_, cs', hc'⟩ := own_blk Hm3.out k hk; have := (hc.eq hc').1; simp at this)).fr ((Fr.refl [] _).alloc (.cells #[.int .i64 t] 3)) (by simp)
  have l5 := l4.fr (Fr.of_own hgrow5) (fun k hk cs hc => by obtain ⟨_, cs', hc'⟩ := own_blk (hown4.alloc (.cells #[.int .i64 t] 3)) k hk; have := (hc.eq hc').1; simp at this)
  have l6 := l5.fr (((Fr.refl [q] w5).setCell (p := ⟨q, 6, none⟩) (.inl (by simp)) (.slice (some ⟨k5, 0, none⟩) (s.l.length + 1) p5))) (hne (by decide) HB6.out)
  have m6 := (Sl.of_own hown5).fr (((Fr.refl [q] w5).setCell (p := ⟨q, 6, none⟩) (.inl (by simp)) (.slice (some ⟨k5, 0, none⟩) (s.l.length + 1) p5))) (hne (by decide) HB6.out)
  exact ⟨rfl, ⟨_, _, HB6.out.set_ 6 _, by simpa [txt] using l6, by simpa [tks] using m6⟩, hfr⟩

set_option maxHeartbeats 400000 in
theorem rrecv_tick (q : Nat) (w : World) (t : Int) (h : t < 0 ∨ 1099511627776 < t) :
    Calls Try.prog 18 #[ptr q, .int .i64 t] w fun e w' => e = .returned (.tuple #[.string ByteArray.empty, .int .i64 0, .int .i64 1]) ∧ w = w' := by
  rcases h with h | h
  all_goals
    go_enter Try.func18, Try.ntmps18
    go_wp2
    go_ret3
    exact ⟨rfl, rfl⟩
set_option maxHeartbeats 400000 in
theorem rrecv_empty (q : Nat) (s : PS) (w : World) (t : Int) (h : RAt w q s) (h1 : 0 ≤ t) (h2 : t ≤ 1099511627776) (hl : s.l = []) :
    Calls Try.prog 18 #[ptr q, .int .i64 t] w fun e w' => e = .returned (.tuple #[.string ByteArray.empty, .int .i64 0, .int .i64 142]) ∧ w = w' := by
  obtain ⟨lv, tv, hb, hll, -⟩ := h
  have g5 := hb.cell 5
  simp at g5
  rw [hl] at hll
  obtain ⟨A, cap, rfl, -⟩ := hll.shape
  clear hll hb hl
  go_enter Try.func18, Try.ntmps18
  go_wp2
  go_ret3
  exact ⟨rfl, rfl⟩
theorem sl_head1 {w : World} {e : TypeId} {v : Value} {n : Nat} {x : Value} {xs : List Value} (h : Sl w e 1 v (n + 1) (x :: xs)) :
    ∃ g o cap, v = .slice (some ⟨g, o, none⟩) (n + 1) cap ∧ n + 1 ≤ cap ∧ cap ≤ maxLen ∧ w.cell? ⟨g, o, none⟩ = some x ∧ (∃ cs, Blk w g e cs ∧ ∀ (j : Nat) (u : Value), (x :: xs)[j]? = some u → cs[o + j]? = some u) := by
  rcases h.2 with ⟨_, h3⟩ | ⟨g, o, cap, cs, hv, h1, h2, hb, hc⟩
  · omega
  · exact ⟨g, o, cap, hv, h1, h2, by rw [hb.cell]; exact hc 0 _ rfl, cs, hb, hc⟩
theorem Sl.tail {w : World} {e : TypeId} {g o cap n : Nat} {x : Value} {xs : List Value} {cs : Array Value} (hx : xs.length = n) (h1 : n + 1 ≤ cap) (h2 : cap ≤ maxLen) (hb : Blk w g e cs) (hc : ∀ (j : Nat) (u : Value), (x :: xs)[j]? = some u → cs[o + j]? = some u) (o' : Nat) (ho : o' = o + 1 ∨ n = 0) :
    Sl w e 1 (.slice (some ⟨g, o', none⟩) n (cap - 1)) n xs := by
  refine ⟨by omega, .inr ⟨g, o', cap - 1, cs, rfl, by omega, by omega, hb, fun j u hu => ?_⟩⟩
  rcases ho with rfl | rfl
  · have := hc (j + 1) u (by simpa using hu)
    rw [show o + 1 + j = o + (j + 1) from by omega]
    exact this
  · have : xs = [] := List.eq_nil_of_length_eq_zero hx
    subst this
    simp at hu

set_option maxHeartbeats 400000 in
theorem rrecv_look (q : Nat) (s : PS) (w : World) (m : ByteArray) (t : Int) (r : List (ByteArray × Int)) (tk : Int) (h : RAt w q s) (hl : s.l = (m, t) :: r)
    (h1 : 0 ≤ tk) (h2 : tk ≤ 1099511627776) (h3 : 0 ≤ t) (h4 : t ≤ 1099511627776) (hk : s.K = 0) :
    Calls Try.prog 18 #[ptr q, .int .i64 tk] w fun e w' => e = .returned (.tuple #[.string m, .int .i64 (max 0 (tk - t)), .int .i64 0]) ∧ Fr [] w w' := by
  obtain ⟨lv, tv, hb, hll, htt⟩ := h
  have g0 := hb.cell 0
  have g5 := hb.cell 5
  have g6 := hb.cell 6
  simp at g0 g5 g6
  rw [hk] at g0
  rw [hl] at hll htt
  obtain ⟨g, o, cap, rfl, hc1, hc2, hg, -⟩ := sl_head1 (n := r.length) (by simpa [txt] using hll)
  obtain ⟨g', o', cap', rfl, hc1', hc2', hg', -⟩ := sl_head1 (n := r.length) (by simpa [tks] using htt)
  unfold maxLen at hc2 hc2'
  clear hll htt hb hl hk
  go_enter Try.func18, Try.ntmps18
  go_wp2
  go_region
  all_goals go_wp2
  all_goals
    go_ret3
    refine ⟨ret_sii ?_, (Fr.refl _ _).drew⟩
    simp only [Int.max_def]
    split <;> omega

set_option maxHeartbeats 400000 in
theorem rrecv_take (q : Nat) (s : PS) (w : World) (m : ByteArray) (t : Int) (r : List (ByteArray × Int)) (tk : Int) (h : RAt w q s) (hl : s.l = (m, t) :: r)
    (h1 : 0 ≤ tk) (h2 : tk ≤ 1099511627776) (hk : s.K = 1) :
    Calls Try.prog 18 #[ptr q, .int .i64 tk] w fun e w' => e = .returned (.tuple #[.string m, .int .i64 s.lost, .int .i64 0]) ∧ RAt w' q { s with l := r, lost := 0 } ∧ Fr [q] w w' := by
  obtain ⟨lv, tv, hb, hll, htt⟩ := h
  have g0 := hb.cell 0
  have g5 := hb.cell 5
  have g6 := hb.cell 6
  have g7 := hb.cell 7
  have hfz := hb.frozen
  simp at g0 g5 g6 g7
  rw [hk] at g0
  rw [hl] at hll htt
  obtain ⟨g, o, cap, rfl, hc1, hc2, hg, cs, hbg, hcs⟩ := sl_head1 (n := r.length) (x := .string m) (xs := txt r) (by simpa [txt] using hll)
  obtain ⟨g', o', cap', rfl, hc1', hc2', hg', cs', hbg', hcs'⟩ := sl_head1 (n := r.length) (x := .int .i64 t) (xs := tks r) (by simpa [tks] using htt)
  have Hc2 := Lib.hid hc2
  have Hc2' := Lib.hid hc2'
  unfold maxLen at hc2 hc2'
  have Hb := Lib.hid hb
  have Hbg := Lib.hid hbg
  have Hbg' := Lib.hid hbg'
  have Hcs := Lib.hid hcs
  have Hcs' := Lib.hid hcs'
  clear hll htt hb hl hk hbg hbg' hcs hcs'
  have fin : ∀ (x x' : Nat) (W : World), (x = o + 1 ∨ r.length = 0) → (x' = o' + 1 ∨ r.length = 0) → W = ((w.setCell ⟨q, 7, none⟩ (.int .i64 0)).setCell ⟨q, 5, none⟩ (.slice (some ⟨g, x, none⟩) r.length (cap - 1))).setCell ⟨q, 6, none⟩ (.slice (some ⟨g', x', none⟩) r.length (cap' - 1)) →
      RAt W q { s with l := r, lost := 0 } ∧ Fr [q] w W := by
    rintro x x' W hx hx' rfl
    have hfr : Fr [q] w (((w.setCell ⟨q, 7, none⟩ (.int .i64 0)).setCell ⟨q, 5, none⟩ (.slice (some ⟨g, x, none⟩) r.length (cap - 1))).setCell ⟨q, 6, none⟩ (.slice (some ⟨g', x', none⟩) r.length (cap' - 1))) := (((Fr.refl _ _).setCell (by simp) _).setCell (by simp) _).setCell (by simp) _
    have n1 : g ∉ [q] := by simp; exact Hbg.out.ne_ Hb.out (by decide)
    have n2 : g' ∉ [q] := by simp; exact Hbg'.out.ne_ Hb.out (by decide)
    exact ⟨⟨_, _, ((Hb.out.set_ 7 _).set_ 5 _).set_ 6 _, Sl.tail (txt_len r) hc1 Hc2.out (Hbg.out.fr hfr n1) Hcs.out x hx, Sl.tail (tks_len r) hc1' Hc2'.out (Hbg'.out.fr hfr n2) Hcs'.out x' hx'⟩, hfr⟩
  have Hfin := Lib.hid fin; clear fin
  by_cases hcap : cap = 1
  · have hr : r.length = 0 := by omega
    subst hcap
    by_cases hcap' : cap' = 1
    · subst hcap'
      have Hr := Lib.hid hr
      rw [hr] at g5 g6 hc1 hc1'
      clear hr
      go_enter Try.func18, Try.ntmps18
      go_wp2
      go_ret3
      exact ⟨rfl, Hfin.out o o' _ (.inr Hr.out) (.inr Hr.out) (by rw [Hr.out])⟩
    · have hcx : ¬ (cap' - 1 = 0) := by omega
      have Hr := Lib.hid hr
      rw [hr] at g5 g6 hc1 hc1'
      clear hr
      go_enter Try.func18, Try.ntmps18
      go_wp2
      go_ret3
      exact ⟨rfl, Hfin.out o (o' + 1) _ (.inr Hr.out) (.inl rfl) (by rw [Hr.out])⟩
  · by_cases hcap' : cap' = 1
    · have hr : r.length = 0 := by omega
      subst hcap'
      have Hr := Lib.hid hr
      rw [hr] at g5 g6 hc1 hc1'
      clear hr
      go_enter Try.func18, Try.ntmps18
      go_wp2
      go_ret3
      exact ⟨rfl, Hfin.out (o + 1) o' _ (.inl rfl) (.inr Hr.out) (by rw [Hr.out])⟩
    · go_enter Try.func18, Try.ntmps18
      go_wp2
      go_ret3
      exact ⟨rfl, Hfin.out (o + 1) (o' + 1) _ (.inl rfl) (.inl rfl) rfl⟩
end Go.Proofs.Ytblidpafeiiniaa

/- Package port's methods, more: look, take, Send, Receive, New, Clone. -/
import Derived.Test.YtblidpafeiiniaaW2
namespace Go.Proofs.Ytblidpafeiiniaa
open Go.RowKit

theorem sl_head {w : World} {v : Value} {m : ByteArray} {t : Int} {r : List (ByteArray × Int)} (h : Sl w 62 2 v ((m, t) :: r).length (encM ((m, t) :: r))) :
    ∃ g o cap, v = .slice (some ⟨g, o, none⟩) (r.length + 1) cap ∧ r.length + 1 ≤ cap ∧ cap ≤ maxLen ∧ w.cell? ⟨g, o, none⟩ = some (.string m) ∧ w.cell? ⟨g, o + 1, none⟩ = some (.int .i64 t) ∧ g < w.heap.size ∧ ∃ cs, Blk w g 62 cs ∧ ∀ (j : Nat) (u : Value), (encM ((m, t) :: r))[j]? = some u → cs[o + j]? = some u := by
  rcases h.2 with ⟨_, h3⟩ | ⟨g, o, cap, cs, hv, h1, h2, hb, hc⟩
  · simp at h3
  · exact ⟨g, o, cap, by simpa using hv, by simpa using h1, h2, by rw [hb.cell]; exact hc 0 _ rfl, by rw [hb.cell]; exact hc 1 _ rfl, hb.lt, cs, hb, hc⟩

theorem ret_si {s : ByteArray} {a b : Int} (h : a = b) : Ending.returned (.tuple #[.string s, .int .i64 a]) = .returned (.tuple #[.string s, .int .i64 b]) := by rw [h]

set_option maxHeartbeats 400000 in
theorem look_any (p : Nat) (s : PS) (w : World) (m : ByteArray) (t : Int) (r : List (ByteArray × Int)) (tk : Int) (h : PortAt w p s) (hl : s.l = (m, t) :: r)
    (h1 : 0 ≤ tk) (h2 : tk ≤ 1099511627776) (h3 : 0 ≤ t) (h4 : t ≤ 1099511627776) :
    Calls Try.prog 26 #[ptr p, .int .i64 tk] w fun e w' => e = .returned (.tuple #[.string m, .int .i64 (max 0 (tk - t))]) ∧ Fr [] w w' := by
  obtain ⟨v, hb, hs⟩ := h
  rw [hl] at hs
  clear hl
  obtain ⟨g, o, cap, rfl, hc1, hc2, hg0, hg1, hglt, -⟩ := sl_head hs
  have h5 := hb.cell 5
  simp at h5
  unfold maxLen at hc2
  clear hs hb
  go_enter Try.func26, Try.ntmps26
  go_wp2
  go_region
  all_goals go_wp2
  all_goals
    go_ret2
    refine ⟨ret_si ?_, (Fr.refl _ _).drew⟩
    simp only [Int.max_def]
    split <;> omega

set_option maxHeartbeats 400000 in
theorem take_any (p : Nat) (s : PS) (w : World) (m : ByteArray) (t : Int) (r : List (ByteArray × Int)) (tk : Int) (h : PortAt w p s) (hl : s.l = (m, t) :: r) :
    Calls Try.prog 28 #[ptr p, .int .i64 tk] w fun e w' => e = .returned (.tuple #[.string m, .int .i64 s.lost]) ∧ PortAt w' p { s with l := r, lost := 0 } ∧ Fr [p] w w' := by
  obtain ⟨v, hb, hs⟩ := h
  rw [hl] at hs
  clear hl
  obtain ⟨g, o, cap, rfl, hc1, hc2, hg0, hg1, hglt, cs, hbg, hcs⟩ := sl_head hs
  have h5 := hb.cell 5
  have h6 := hb.cell 6
  have hf := hb.frozen
  simp at h5 h6
  have Hc2 := Lib.hid hc2
  unfold maxLen at hc2
  have fin : ∀ nq A', (A' = ⟨g, o + 2, none⟩ ∨ r.length = 0 ∧ ∃ o', A' = ⟨g, o', none⟩) → PortAt (((w.drewN nq).setCell ⟨p, 5, none⟩ (.slice (some A') r.length (cap - 1))).setCell ⟨p, 6, none⟩ (.int .i64 0)) p { s with l := r, lost := 0 } ∧ Fr [p] w (((w.drewN nq).setCell ⟨p, 5, none⟩ (.slice (some A') r.length (cap - 1))).setCell ⟨p, 6, none⟩ (.int .i64 0)) := by
    intro nq A' hA'
    have hfr : Fr [p] w (((w.drewN nq).setCell ⟨p, 5, none⟩ (.slice (some A') r.length (cap - 1))).setCell ⟨p, 6, none⟩ (.int .i64 0)) := (((Fr.refl _ _).drewN nq).setCell (by simp) _).setCell (by simp) _
    have hgp : g ≠ p := hbg.ne_ hb (by decide)
    have hbg' := hbg.fr hfr (by simp [hgp])
    refine ⟨⟨_, ((hb.drewN nq).set_ 5 _).set_ 6 _, by rw [encM_length], ?_⟩, hfr⟩
    rcases hA' with rfl | ⟨hr, o', rfl⟩
    · refine .inr ⟨g, o + 2, cap - 1, cs, rfl, by show r.length ≤ _; omega, by have := Hc2.out; omega, hbg', fun j u hu => ?_⟩
      have := hcs (j + 2) u (by simpa [encM] using hu)
      rw [show o + 2 + j = o + (j + 2) from by omega]
      exact this
    · refine .inr ⟨g, o', cap - 1, cs, rfl, by show r.length ≤ _; omega, by have := Hc2.out; omega, hbg', fun j u hu => ?_⟩
      have : r = [] := List.eq_nil_of_length_eq_zero hr
      subst this
      simp [encM] at hu
  have Hfin := Lib.hid fin; clear fin
  clear hs hcs hbg
  have Hb := Lib.hid hb; clear hb
  by_cases hcap : cap = 1
  · have hr : r.length = 0 := by omega
    have hrn : r = [] := List.eq_nil_of_length_eq_zero hr
    subst hcap; subst hrn
    simp only [List.length_nil] at *
    go_enter Try.func28, Try.ntmps28
    go_wp2
    go_quiet (fail)
    go_wp2
    go_ret2
    refine ⟨rfl, ?_⟩
    exact Hfin.out nq ⟨g, o, none⟩ (.inr ⟨trivial, o, rfl⟩)
  · have hcap' : ¬ (cap - 1 = 0) := by omega
    go_enter Try.func28, Try.ntmps28
    go_wp2
    go_quiet (fail)
    go_wp2
    go_ret2
    exact ⟨rfl, Hfin.out nq _ (.inl rfl)⟩

theorem field_25 (p : Nat) (w : World) : (Instr.field 59 (.agg #[.func (.func 25) #[ptr p] #[], .func (.func 26) #[ptr p] #[]]) 0).run Try.prog w = .ok (.func (.func 25) #[ptr p] #[]) w := by kernel_rfl
theorem field_26 (p : Nat) (w : World) : (Instr.field 59 (.agg #[.func (.func 25) #[ptr p] #[], .func (.func 26) #[ptr p] #[]]) 1).run Try.prog w = .ok (.func (.func 26) #[ptr p] #[]) w := by kernel_rfl
theorem field_27 (p : Nat) (w : World) : (Instr.field 59 (.agg #[.func (.func 27) #[ptr p] #[], .func (.func 28) #[ptr p] #[]]) 0).run Try.prog w = .ok (.func (.func 27) #[ptr p] #[]) w := by kernel_rfl
theorem field_28 (p : Nat) (w : World) : (Instr.field 59 (.agg #[.func (.func 27) #[ptr p] #[], .func (.func 28) #[ptr p] #[]]) 1).run Try.prog w = .ok (.func (.func 28) #[ptr p] #[]) w := by kernel_rfl
theorem underMax {x : Int} (h : x ≤ 1099511627776) : x ≤ 9223372036854775807 := by omega

set_option maxHeartbeats 400000 in
theorem send_tick (p : Nat) (w : World) (m : ByteArray) (t : Int) (h : t < 0 ∨ 1099511627776 < t) :
    Calls Try.prog 12 #[ptr p, .string m, .int .i64 t] w fun e w' => e = .returned (.int .i64 1) ∧ w = w' := by
  go_enter Try.func12, Try.ntmps12
  go_wp2_with (go_at_call 22; refine (in_no _ _ _ _ h).mono ?_; rintro e w' ⟨rfl, rfl⟩)
  go_ret
  exact ⟨rfl, rfl⟩

set_option maxHeartbeats 400000 in
theorem send_long (p : Nat) (s : PS) (w : World) (m : ByteArray) (t : Int) (h : PortAt w p s) (h1 : 0 ≤ t) (h2 : t ≤ 1099511627776) (hl : s.S < m.size) (hm : m.size ≤ maxLen) :
    Calls Try.prog 12 #[ptr p, .string m, .int .i64 t] w fun e w' => e = .returned (.int .i64 141) ∧ w = w' := by
  obtain ⟨v, hb, -⟩ := h
  have h5 := hb.cell 3
  simp at h5
  unfold maxLen at hm
  clear hb
  go_enter Try.func12, Try.ntmps12
  go_wp2_with (go_at_call 22; refine (in_yes _ _ _ _ h1 h2).mono ?_; rintro e w' ⟨rfl, rfl⟩)
  go_ret
  exact ⟨rfl, rfl⟩

set_option maxHeartbeats 400000 in
theorem send_keep (p : Nat) (s : PS) (w : World) (m : ByteArray) (t : Int) (h : PortAt w p s) (h1 : 0 ≤ t) (h2 : t ≤ 1099511627776) (hl : m.size ≤ s.S) (hm : m.size ≤ maxLen) (hk : s.K = 0) :
    Calls Try.prog 12 #[ptr p, .string m, .int .i64 t] w fun e w' => e = .returned (.int .i64 0) ∧ PortAt w' p { s with l := [(m, t)] } ∧ Fr [p] w w' := by
  have Hp := Lib.hid h
  obtain ⟨v, hb, -⟩ := h
  have h5 := hb.cell 3
  simp at h5
  unfold maxLen at hm
  have Hk := Lib.hid hk; clear hk hb
  have hfld := field_25 p
  go_enter Try.func12, Try.ntmps12
  go_wp2_with (first
   | (go_at_call 22; refine (in_yes _ _ _ _ h1 h2).mono ?_; rintro e w' ⟨rfl, rfl⟩)
   | (go_at_call 23; refine (kind0_any p s _ Hp.out Hk.out).mono ?_; rintro e w1 ⟨rfl, hf1⟩)
   | (go_at_call 25; refine (keep_any p s _ _ _ (Hp.out.fr hf1 (by simp) (by simp))).mono ?_; rintro e w2 ⟨rfl, hp2, hf2⟩))
  go_ret
  exact ⟨rfl, hp2, (hf1.mono (by simp)).trans hf2⟩

set_option maxHeartbeats 400000 in
theorem send_full (p : Nat) (s : PS) (w : World) (m : ByteArray) (t : Int) (h : PortAt w p s) (h1 : 0 ≤ t) (h2 : t ≤ 1099511627776) (hl : m.size ≤ s.S) (hm : m.size ≤ maxLen) (hk : s.K = 1)
    (hf : (s.l.length : Int) = s.D) (hl0 : 0 ≤ s.lost) (hl2 : s.lost ≤ 4611686018427387904) :
    Calls Try.prog 12 #[ptr p, .string m, .int .i64 t] w fun e w' => e = .returned (.int .i64 0) ∧ PortAt w' p { s with lost := s.lost + 1 } ∧ Fr [p] w w' := by
  have Hp := Lib.hid h
  obtain ⟨v, hb, -⟩ := h
  have h5 := hb.cell 3
  simp at h5
  unfold maxLen at hm
  have Hk := Lib.hid hk; clear hk hb
  have Hf := Lib.hid hf; clear hf
  have hfld := field_27 p
  go_enter Try.func12, Try.ntmps12
  go_wp2_with (first
   | (go_at_call 22; refine (in_yes _ _ _ _ h1 h2).mono ?_; rintro e w' ⟨rfl, rfl⟩)
   | (go_at_call 23; refine (kind1_any p s _ Hp.out Hk.out).mono ?_; rintro e w1 ⟨rfl, hf1⟩)
   | (go_at_call 27; refine (queue_full p s _ _ _ (Hp.out.fr hf1 (by simp) (by simp)) Hf.out hl0 hl2).mono ?_; rintro e w2 ⟨rfl, hp2, hf2⟩))
  go_ret
  exact ⟨rfl, hp2, (hf1.mono (by simp)).trans hf2⟩

set_option maxHeartbeats 400000 in
theorem send_room (p : Nat) (s : PS) (w : World) (m : ByteArray) (t : Int) (h : PortAt w p s) (h1 : 0 ≤ t) (h2 : t ≤ 1099511627776) (hl : m.size ≤ s.S) (hm : m.size ≤ maxLen) (hk : s.K = 1)
    (hf : (s.l.length : Int) < s.D) (hd : s.D ≤ 8) :
    Calls Try.prog 12 #[ptr p, .string m, .int .i64 t] w fun e w' => e = .returned (.int .i64 0) ∧ PortAt w' p { s with l := s.l ++ [(m, t)] } ∧ Fr [p] w w' := by
  have Hp := Lib.hid h
  obtain ⟨v, hb, -⟩ := h
  have h5 := hb.cell 3
  simp at h5
  unfold maxLen at hm
  have Hk := Lib.hid hk; clear hk hb
  have hfld := field_27 p
  go_enter Try.func12, Try.ntmps12
  go_wp2_with (first
   | (go_at_call 22; refine (in_yes _ _ _ _ h1 h2).mono ?_; rintro e w' ⟨rfl, rfl⟩)
   | (go_at_call 23; refine (kind1_any p s _ Hp.out Hk.out).mono ?_; rintro e w1 ⟨rfl, hf1⟩)
   | (go_at_call 27; refine (queue_room p s _ _ _ (Hp.out.fr hf1 (by simp) (by simp)) hf hd).mono ?_; rintro e w2 ⟨rfl, hp2, hf2⟩))
  go_ret
  exact ⟨rfl, hp2, (hf1.mono (by simp)).trans hf2⟩

set_option maxHeartbeats 400000 in
theorem recv_tick (p : Nat) (w : World) (t : Int) (h : t < 0 ∨ 1099511627776 < t) :
    Calls Try.prog 10 #[ptr p, .int .i64 t] w fun e w' => e = .returned (.tuple #[.string ByteArray.empty, .int .i64 0, .int .i64 1]) ∧ w = w' := by
  go_enter Try.func10, Try.ntmps10
  go_wp2_with (go_at_call 22; refine (in_no _ _ _ _ h).mono ?_; rintro e w' ⟨rfl, rfl⟩)
  go_ret3
  exact ⟨rfl, rfl⟩

set_option maxHeartbeats 400000 in
theorem recv_empty (p : Nat) (s : PS) (w : World) (t : Int) (h : PortAt w p s) (h1 : 0 ≤ t) (h2 : t ≤ 1099511627776) (hl : s.l = []) :
    Calls Try.prog 10 #[ptr p, .int .i64 t] w fun e w' => e = .returned (.tuple #[.string ByteArray.empty, .int .i64 0, .int .i64 142]) ∧ w = w' := by
  obtain ⟨v, hb, hs⟩ := h
  have h5 := hb.cell 5
  simp at h5
  rw [hl] at hs
  have hv : ∃ A cap, v = .slice A 0 cap := by
    rcases hs.2 with ⟨h2, h3⟩ | ⟨g, o, cap', cs, hv, _⟩
    · exact ⟨none, 0, h2⟩
    · exact ⟨_, _, hv⟩
  obtain ⟨A, cap, rfl⟩ := hv
  clear hs hb hl
  go_enter Try.func10, Try.ntmps10
  go_wp2_with (go_at_call 22; refine (in_yes _ _ _ _ h1 h2).mono ?_; rintro e w' ⟨rfl, rfl⟩)
  go_ret3
  exact ⟨rfl, rfl⟩

set_option maxHeartbeats 400000 in
theorem recv_look (p : Nat) (s : PS) (w : World) (m : ByteArray) (t : Int) (r : List (ByteArray × Int)) (tk : Int) (h : PortAt w p s) (hl : s.l = (m, t) :: r)
    (h1 : 0 ≤ tk) (h2 : tk ≤ 1099511627776) (h3 : 0 ≤ t) (h4 : t ≤ 1099511627776) (hk : s.K = 0) :
    Calls Try.prog 10 #[ptr p, .int .i64 tk] w fun e w' => e = .returned (.tuple #[.string m, .int .i64 (max 0 (tk - t)), .int .i64 0]) ∧ Fr [] w w' := by
  have Hp := Lib.hid h
  obtain ⟨v, hb, hs⟩ := h
  rw [hl] at hs
  have h5 := hb.cell 5
  simp at h5
  obtain ⟨g, o, cap, rfl, hc1, hc2, hg0, hg1, hglt, -⟩ := sl_head hs
  have Hk := Lib.hid hk; clear hk hb hs
  have Hl := Lib.hid hl; clear hl
  clear hc1 hc2 hg0 hg1 hglt
  have hfld := field_26 p
  go_enter Try.func10, Try.ntmps10
  go_wp2_with (first
   | (go_at_call 22; refine (in_yes _ _ _ _ h1 h2).mono ?_; rintro e w' ⟨rfl, rfl⟩)
   | (go_at_call 23; refine (kind0_any p s _ Hp.out Hk.out).mono ?_; rintro e w1 ⟨rfl, hf1⟩)
   | (go_at_call 26; refine (look_any p s _ _ _ _ _ (Hp.out.fr hf1 (by simp) (by simp)) Hl.out h1 h2 h3 h4).mono ?_; rintro e w2 ⟨rfl, hf2⟩))
  go_ret3
  exact ⟨rfl, hf1.trans hf2⟩

set_option maxHeartbeats 400000 in
theorem recv_take (p : Nat) (s : PS) (w : World) (m : ByteArray) (t : Int) (r : List (ByteArray × Int)) (tk : Int) (h : PortAt w p s) (hl : s.l = (m, t) :: r)
    (h1 : 0 ≤ tk) (h2 : tk ≤ 1099511627776) (hk : s.K = 1) :
    Calls Try.prog 10 #[ptr p, .int .i64 tk] w fun e w' => e = .returned (.tuple #[.string m, .int .i64 s.lost, .int .i64 0]) ∧ PortAt w' p { s with l := r, lost := 0 } ∧ Fr [p] w w' := by
  have Hp := Lib.hid h
  obtain ⟨v, hb, hs⟩ := h
  rw [hl] at hs
  have h5 := hb.cell 5
  simp at h5
  obtain ⟨g, o, cap, rfl, hc1, hc2, hg0, hg1, hglt, -⟩ := sl_head hs
  have Hk := Lib.hid hk; clear hk hb hs
  have Hl := Lib.hid hl; clear hl
  clear hc1 hc2 hg0 hg1 hglt
  have hfld := field_28 p
  go_enter Try.func10, Try.ntmps10
  go_wp2_with (first
   | (go_at_call 22; refine (in_yes _ _ _ _ h1 h2).mono ?_; rintro e w' ⟨rfl, rfl⟩)
   | (go_at_call 23; refine (kind1_any p s _ Hp.out Hk.out).mono ?_; rintro e w1 ⟨rfl, hf1⟩)
   | (go_at_call 28; refine (take_any p s _ _ _ _ _ (Hp.out.fr hf1 (by simp) (by simp)) Hl.out).mono ?_; rintro e w2 ⟨rfl, hp2, hf2⟩))
  go_ret3
  exact ⟨rfl, hp2, (hf1.mono (by simp)).trans hf2⟩
end Go.Proofs.Ytblidpafeiiniaa

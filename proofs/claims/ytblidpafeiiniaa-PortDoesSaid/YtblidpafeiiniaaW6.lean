/- Send, Receive, Clear: one contract each, over a port's state. -/
import Derived.Test.YtblidpafeiiniaaW5
namespace Go.Proofs.Ytblidpafeiiniaa
open Go.RowKit

/-- What Send tells. -/
def sendE (S : Int) (m : ByteArray) (t : Int) : Int := if t < 0 ∨ 1099511627776 < t then 1 else if S < m.size then 141 else 0
/-- What Send makes of a state. -/
def sendS (s : PS) (m : ByteArray) (t : Int) : PS :=
  if t < 0 ∨ 1099511627776 < t then s else if s.S < m.size then s else
  if s.K = 0 then { s with l := [(m, t)] } else if (s.l.length : Int) = s.D then { s with lost := s.lost + 1 } else { s with l := s.l ++ [(m, t)] }
/-- What Receive tells. -/
def recvT (s : PS) (t : Int) : ByteArray × Int × Int :=
  if t < 0 ∨ 1099511627776 < t then (ByteArray.empty, 0, 1) else
  match s.l with
  | [] => (ByteArray.empty, 0, 142)
  | m :: _ => if s.K = 0 then (m.1, max 0 (t - m.2), 0) else (m.1, s.lost, 0)
/-- What Receive makes of a state. -/
def recvS (s : PS) (t : Int) : PS :=
  if t < 0 ∨ 1099511627776 < t then s else
  match s.l with
  | [] => s
  | _ :: r => if s.K = 0 then s else { s with l := r, lost := 0 }
def clearS (s : PS) : PS := { s with l := [], lost := 0 }
/-- A state that may be, of which at most N are lost. -/
structure PV (s : PS) (N : Nat) : Prop where
  ok : okC s.K s.F s.T s.S s.D = true
  len : (s.l.length : Int) ≤ s.D
  lost0 : 0 ≤ s.lost
  lostN : s.lost ≤ N
  tick : ∀ m, m ∈ s.l → 0 ≤ m.2 ∧ m.2 ≤ 1099511627776
  size : ∀ m, m ∈ s.l → m.1.size ≤ 255
theorem PV.k01 {s : PS} {N : Nat} (h : PV s N) : s.K = 0 ∨ s.K = 1 := by have := (okC_iff ..).1 h.ok; omega
theorem PV.d {s : PS} {N : Nat} (h : PV s N) : 1 ≤ s.D ∧ s.D ≤ 8 := by have := (okC_iff ..).1 h.ok; omega
theorem PV.s {s : PS} {N : Nat} (h : PV s N) : 1 ≤ s.S ∧ s.S ≤ 255 := by have := (okC_iff ..).1 h.ok; omega
theorem PV.new {K F T S D : Int} (h : okC K F T S D = true) : PV (ps0 K F T S D) 0 := ⟨h, by have := (okC_iff ..).1 h; simp [ps0]; omega, by simp [ps0], by simp [ps0], by simp [ps0], by simp [ps0]⟩
theorem PV.mono {s : PS} {N M : Nat} (h : PV s N) (hm : N ≤ M) : PV s M := ⟨h.ok, h.len, h.lost0, by have := h.lostN; omega, h.tick, h.size⟩
theorem PV.send {s : PS} {N : Nat} (h : PV s N) (m : ByteArray) (t : Int) : PV (sendS s m t) (N + 1) := by
  have hd := h.d
  have hs := h.s
  have hl := h.len
  have h0 := h.lost0
  have hN := h.lostN
  unfold sendS
  split
  · exact h.mono (by omega)
  · split
    · exact h.mono (by omega)
    · rename_i h1 h2
      split
      · exact ⟨h.ok, by simp; omega, h0, by show s.lost ≤ _; omega, by simp; omega, by simp; omega⟩
      · split
        · exact ⟨h.ok, hl, by show 0 ≤ s.lost + 1; omega, by show s.lost + 1 ≤ _; omega, h.tick, h.size⟩
        · refine ⟨h.ok, by simp; omega, h0, by show s.lost ≤ _; omega, ?_, ?_⟩
          · intro x hx
            simp at hx
            rcases hx with hx | rfl
            · exact h.tick x hx
            · simp; omega
          · intro x hx
            simp at hx
            rcases hx with hx | rfl
            · exact h.size x hx
            · simp; omega
theorem PV.recv {s : PS} {N : Nat} (h : PV s N) (t : Int) : PV (recvS s t) N := by
  have hl := h.len
  have ht := h.tick
  have hz := h.size
  unfold recvS
  split
  · exact h
  · split
    · exact h
    · rename_i x r hr
      split
      · exact h
      · rw [hr] at hl ht hz
        exact ⟨h.ok, by simp at hl ⊢; omega, by simp, by simp, fun m hm => ht m (List.mem_cons_of_mem _ hm), fun m hm => hz m (List.mem_cons_of_mem _ hm)⟩
theorem PV.clear {s : PS} {N : Nat} (h : PV s N) : PV (clearS s) N := ⟨h.ok, by have := h.d; simp [clearS]; omega, by simp [clearS], by simp [clearS], by simp [clearS], by simp [clearS]⟩

def SendPost (p : Nat) (s : PS) (m : ByteArray) (t : Int) (w : World) (e : Ending) (w' : World) : Prop :=
  e = .returned (.int .i64 (sendE s.S m t)) ∧ PortAt w' p (sendS s m t) ∧ Fr [p] w w'
def RecvPost (p : Nat) (s : PS) (t : Int) (w : World) (e : Ending) (w' : World) : Prop :=
  e = .returned (.tuple #[.string (recvT s t).1, .int .i64 (recvT s t).2.1, .int .i64 (recvT s t).2.2]) ∧ PortAt w' p (recvS s t) ∧ Fr [p] w w'

theorem send_any (p : Nat) (s : PS) (N : Nat) (w : World) (m : ByteArray) (t : Int) (h : PortAt w p s) (hv : PV s N) (hN : N ≤ 4611686018427387904) (hm : m.size ≤ maxLen) :
    Calls Try.prog 12 #[ptr p, .string m, .int .i64 t] w (SendPost p s m t w) := by
  have hd := hv.d
  by_cases h1 : t < 0 ∨ 1099511627776 < t
  · refine (send_tick p w m t h1).mono ?_
    rintro e w' ⟨rfl, rfl⟩
    exact ⟨by simp [sendE, h1], by rw [sendS, if_pos h1]; exact h, Fr.refl _ _⟩
  · by_cases h2 : s.S < m.size
    · refine (send_long p s w m t h (by omega) (by omega) h2 hm).mono ?_
      rintro e w' ⟨rfl, rfl⟩
      exact ⟨by rw [sendE, if_neg h1, if_pos h2], by rw [sendS, if_neg h1, if_pos h2]; exact h, Fr.refl _ _⟩
    · by_cases h3 : s.K = 0
      · refine (send_keep p s w m t h (by omega) (by omega) (by omega) hm h3).mono ?_
        rintro e w' ⟨rfl, hp, hf⟩
        exact ⟨by rw [sendE, if_neg h1, if_neg h2], by rw [sendS, if_neg h1, if_neg h2, if_pos h3]; exact hp, hf⟩
      · have hk : s.K = 1 := by have := hv.k01; omega
        by_cases h4 : (s.l.length : Int) = s.D
        · refine (send_full p s w m t h (by omega) (by omega) (by omega) hm hk h4 hv.lost0 (by have := hv.lostN; omega)).mono ?_
          rintro e w' ⟨rfl, hp, hf⟩
          exact ⟨by rw [sendE, if_neg h1, if_neg h2], by rw [sendS, if_neg h1, if_neg h2, if_neg h3, if_pos h4]; exact hp, hf⟩
        · refine (send_room p s w m t h (by omega) (by omega) (by omega) hm hk (by have := hv.len; omega) hd.2).mono ?_
          rintro e w' ⟨rfl, hp, hf⟩
          exact ⟨by rw [sendE, if_neg h1, if_neg h2], by rw [sendS, if_neg h1, if_neg h2, if_neg h3, if_neg h4]; exact hp, hf⟩

theorem recv_any (p : Nat) (s : PS) (N : Nat) (w : World) (t : Int) (h : PortAt w p s) (hv : PV s N) :
    Calls Try.prog 10 #[ptr p, .int .i64 t] w (RecvPost p s t w) := by
  by_cases h1 : t < 0 ∨ 1099511627776 < t
  · refine (recv_tick p w t h1).mono ?_
    rintro e w' ⟨rfl, rfl⟩
    exact ⟨by simp [recvT, h1], by rw [recvS, if_pos h1]; exact h, Fr.refl _ _⟩
  · cases hl : s.l with
    | nil =>
      refine (recv_empty p s w t h (by omega) (by omega) hl).mono ?_
      rintro e w' ⟨rfl, rfl⟩
      exact ⟨by simp [recvT, h1, hl], by simp only [recvS, if_neg h1, hl]; exact h, Fr.refl _ _⟩
    | cons x r =>
      obtain ⟨m, tk⟩ := x
      have htk := hv.tick (m, tk) (by rw [hl]; simp)
      by_cases h3 : s.K = 0
      · refine (recv_look p s w m tk r t h hl (by omega) (by omega) htk.1 htk.2 h3).mono ?_
        rintro e w' ⟨rfl, hf⟩
        exact ⟨by simp [recvT, h1, hl, h3], by simp only [recvS, if_neg h1, hl, if_pos h3]; exact h.fr hf (by simp) (by simp), hf.mono (by simp)⟩
      · refine (recv_take p s w m tk r t h hl (by omega) (by omega) (by have := hv.k01; omega)).mono ?_
        rintro e w' ⟨rfl, hp, hf⟩
        exact ⟨by simp [recvT, h1, hl, h3], by simp only [recvS, if_neg h1, hl, if_neg h3]; exact hp, hf⟩

theorem send_at (p : Nat) (s : PS) (N : Nat) (S : Int) (w : World) (m : ByteArray) (t : Int) (h : PortAt w p s) (hv : PV s N) (hN : N ≤ 4611686018427387904) (hm : m.size ≤ maxLen) (hS : s.S = S) :
    Calls Try.prog 12 #[ptr p, .string m, .int .i64 t] w fun e w' => e = .returned (.int .i64 (sendE S m t)) ∧ PortAt w' p (sendS s m t) ∧ Fr [p] w w' := by
  subst hS
  exact send_any p s N w m t h hv hN hm
theorem sendS_S (s : PS) (m : ByteArray) (t : Int) : (sendS s m t).S = s.S := by
  unfold sendS
  repeat' split
  all_goals rfl
theorem recvS_S (s : PS) (t : Int) : (recvS s t).S = s.S := by
  unfold recvS
  repeat' split
  all_goals rfl
theorem clear_at (p : Nat) (s : PS) (w : World) (h : PortAt w p s) : Calls Try.prog 13 #[ptr p] w fun e w' => e = .returned (.tuple #[]) ∧ PortAt w' p (clearS s) ∧ Fr [p] w w' := clear_any p s w h
theorem recv_at (p : Nat) (s : PS) (N : Nat) (w : World) (t : Int) (h : PortAt w p s) (hv : PV s N) :
    Calls Try.prog 10 #[ptr p, .int .i64 t] w fun e w' => (∃ x y z, e = .returned (.tuple #[.string x, .int .i64 y, .int .i64 z])) ∧ PortAt w' p (recvS s t) ∧ Fr [p] w w' :=
  (recv_any p s N w t h hv).mono fun e w' ⟨he, h⟩ => ⟨⟨_, _, _, he⟩, h⟩
end Go.Proofs.Ytblidpafeiiniaa

/- A world of the law: Lay of any text, made. -/
import Derived.Test.YtonongaakieciaaF7
import Derived.Test.YtonongaakieciaaW22
namespace Go.Proofs.Ytonongaakieciaa
open Go.RowKit
set_option linter.unusedVariables false
set_option linter.unusedSimpArgs false
set_option maxRecDepth 100000
theorem lay_ne {n : Nat} {f a : Int} {s : ByteArray} (hb : (f < 0 ∨ (n : Int) ≤ f) ∨ (a < 0 ∨ 256 < a ∨ 256 - a < s.size)) : layE n f a s ≠ 0 := by
  unfold layE
  rcases hb with h1 | h1
  · rw [if_pos h1]; omega
  · split
    · omega
    · first | omega | (rw [if_pos h1]; omega)
set_option maxHeartbeats 400000 in
theorem Lay_bad2 (p F : Nat) (st : St) (w : World) (f a : Int) (s : ByteArray) (h : MemAt w p F st) (hs : s.size ≤ maxLen) (hb : (f < 0 ∨ (st.n : Int) ≤ f) ∨ (a < 0 ∨ 256 < a ∨ 256 - a < s.size)) :
    Calls Try.prog 31 #[ptr p, .int .i64 f, .int .i64 a, .string s] w fun e w' => e = .returned (.int .i64 (layE st.n f a s)) ∧ w = w' := by
  obtain ⟨cap, hc, -, -⟩ := h.hd.cell
  have e0 : (if f < 0 ∨ (st.n : Int) ≤ f then (83 : Int) else 80) = layE st.n f a s := by
    unfold layE
    by_cases h1 : f < 0 ∨ (st.n : Int) ≤ f
    · rw [if_pos h1, if_pos h1]
    · rw [if_neg h1, if_neg h1, if_pos (hb.resolve_left h1)]
  have E := Lib.hid e0
  clear h e0
  obtain ⟨N, hN⟩ : ∃ N, s.size = N := ⟨_, rfl⟩
  rw [hN] at hb hs
  simp only [maxLen] at hs
  by_cases h1 : f < 0
  · rw [if_pos (.inl h1)] at E
    go_enter Try.func31, Try.ntmps31
    go_wp2
    go_ret
    exact ⟨ret_int E.out, rfl⟩
  · by_cases h2 : (st.n : Int) ≤ f
    · rw [if_pos (.inr h2)] at E
      go_enter Try.func31, Try.ntmps31
      go_wp2
      go_ret
      exact ⟨ret_int E.out, rfl⟩
    · rw [if_neg (by omega)] at E
      have hb' := hb.resolve_left (by omega)
      by_cases h3 : a < 0
      · clear hb hb'
        go_enter Try.func31, Try.ntmps31
        go_wp2
        go_ret
        exact ⟨ret_int E.out, rfl⟩
      · by_cases h4 : 256 < a
        · clear hb hb'
          go_enter Try.func31, Try.ntmps31
          go_wp2
          go_ret
          exact ⟨ret_int E.out, rfl⟩
        · have h5 : 256 - a < (N : Int) := by omega
          clear hb hb'
          go_enter Try.func31, Try.ntmps31
          go_wp2
          go_ret
          exact ⟨ret_int E.out, rfl⟩
theorem Lay_law (p F : Nat) (st : St) (w : World) (f : Int) (s : ByteArray) (h : MemAt w p F st) (hs : s.size ≤ maxLen) : Calls Try.prog 31 #[ptr p, .int .i64 f, .int .i64 0, .string s] w fun e w' => e = .returned (.int .i64 (layE st.n f 0 s)) ∧ MemAt w' p F (layS st f 0 s) ∧ Fr [F] w w' := by
  by_cases hb : (f < 0 ∨ (st.n : Int) ≤ f) ∨ ((0 : Int) < 0 ∨ (256 : Int) < 0 ∨ 256 - (0 : Int) < s.size)
  · refine (Lay_bad2 p F st w f 0 s h hs hb).mono fun e w' ⟨he, hw⟩ => ?_
    subst hw
    refine ⟨he, ?_, Fr.refl _ _⟩
    unfold layS
    rw [if_neg (lay_ne hb)]
    exact h
  · exact Lay_any p F st w f 0 s h (by omega)
theorem rLay_law (q G : Nat) (st : St) (w : World) (f : Int) (s : ByteArray) (h : RMem w q G st) (hs : s.size ≤ maxLen) : Calls Try.prog 43 #[ptr q, .int .i64 f, .int .i64 0, .string s] w fun e w' => e = .returned (.int .i64 (layE st.n f 0 s)) ∧ RMem w' q G (layS st f 0 s) ∧ Fr [G] w w' :=
  rLay_any q G st w f 0 s h hs
/-- A slice of numbers. -/
def NumS (w : World) (A : Option Addr) (n : Nat) (l : Nat → Int) : Prop :=
  n ≤ maxLen ∧ ∀ i, i < n → (-9223372036854775808 ≤ l i ∧ l i ≤ 9223372036854775807) ∧ ∃ b off, A = some ⟨b, off, none⟩ ∧ w.cell? ⟨b, off + i, none⟩ = some (.int .i64 (l i))
theorem NumS.fr {w w' : World} {A : Option Addr} {n : Nat} {l : Nat → Int} (h : NumS w A n l) (hf : Fr [] w w') : NumS w' A n l :=
  ⟨h.1, fun i hi => by obtain ⟨hz, b, off, e, hc⟩ := h.2 i hi; exact ⟨hz, b, off, e, hf.cell_some hc (by simp)⟩⟩
/-- A slice of slices of numbers. -/
def NumsS (w : World) (A : Option Addr) (n : Nat) (B : Nat → Option Addr) (k c : Nat → Nat) (l : Nat → Nat → Int) : Prop :=
  n ≤ maxLen ∧ ∀ i, i < n → NumS w (B i) (k i) (l i) ∧ ∃ b off, A = some ⟨b, off, none⟩ ∧ w.cell? ⟨b, off + i, none⟩ = some (.slice (B i) (k i) (c i))
theorem NumsS.fr {w w' : World} {A : Option Addr} {n : Nat} {B : Nat → Option Addr} {k c : Nat → Nat} {l : Nat → Nat → Int} (h : NumsS w A n B k c l) (hf : Fr [] w w') : NumsS w' A n B k c l :=
  ⟨h.1, fun i hi => by obtain ⟨hz, b, off, e, hc⟩ := h.2 i hi; exact ⟨hz.fr hf, b, off, e, hf.cell_some hc (by simp)⟩⟩
/-- A slice of texts, with their sizes. -/
def PrZ (w : World) (A : Option Addr) (n : Nat) (l : Nat → ByteArray) : Prop :=
  n ≤ maxLen ∧ ∀ i, i < n → (l i).size ≤ maxLen ∧ ∃ b off, A = some ⟨b, off, none⟩ ∧ w.cell? ⟨b, off + i, none⟩ = some (.string (l i))
theorem PrZ.fr {w w' : World} {A : Option Addr} {n : Nat} {l : Nat → ByteArray} (h : PrZ w A n l) (hf : Fr [] w w') : PrZ w' A n l :=
  ⟨h.1, fun i hi => by obtain ⟨hz, b, off, e, hc⟩ := h.2 i hi; exact ⟨hz, b, off, e, hf.cell_some hc (by simp)⟩⟩
/-- A memory into whose frames texts are laid. -/
def layN (n : Nat) (l : Nat → ByteArray) : Nat → St
  | 0 => ⟨n, fun _ => 0⟩
  | k + 1 => layS (layN n l k) (k : Int) 0 (l k)
theorem layN_n (n : Nat) (l : Nat → ByteArray) : ∀ k, (layN n l k).n = n
  | 0 => rfl
  | k + 1 => by
    show (layS _ _ _ _).n = n
    unfold layS
    split <;> exact layN_n n l k
set_option maxHeartbeats 2000000 in
theorem made_bad (n : Int) (LA : Option Addr) (nl cl : Nat) (TA : Option Addr) (nt ct : Nat) (w : World) (h : n < 1 ∨ 160 < n) :
    Calls Try.prog 40 #[.agg #[.int .i64 n, .slice LA nl cl, .slice TA nt ct]] w fun e w' => e = .returned (.tuple #[.pointer none, .pointer none]) ∧ Fr [] w w' := by
  have H1 := Lib.hid (fun W => New_bad n W h)
  have H2 := Lib.hid (fun W => rNew_bad n W h)
  have HF := Lib.hid (fun o => (Fr.refl [] w).alloc o)
  clear h
  go_enter Try.func40, Try.ntmps40
  go_wp2_with (first
    | (go_at_call 29; refine (H1.out _).mono ?_; rintro e w1 ⟨rfl, rfl⟩)
    | (go_at_call 41; refine (H2.out _).mono ?_; rintro e w2 ⟨rfl, rfl⟩)
    | fail)
  go_ret2
  exact ⟨rfl, HF.out _⟩
/-- Two memories, the program's and the document's, in one state. -/
structure Mms (w0 W : World) (p F q G : Nat) (st st' : St) : Prop where
  m : MemAt W p F st
  r : RMem W q G st'
  fr : Fr [] w0 W
  gp : w0.heap.size ≤ p ∧ w0.heap.size ≤ F ∧ w0.heap.size ≤ q ∧ w0.heap.size ≤ G
theorem Mms.ne {w0 W : World} {p F q G : Nat} {st st' : St} (h : Mms w0 W p F q G st st') : F ≠ q ∧ F ≠ G ∧ p ≠ q ∧ p ≠ G := by
  obtain ⟨⟨⟨c1, h1, -⟩, -, -⟩, ⟨c2, h2, -⟩⟩ := h.m
  obtain ⟨⟨⟨c3, h3, -⟩, -⟩, c4, h4, -⟩ := h.r
  exact ⟨Blk.ne_ h2 h3 (by decide), Blk.ne_ h2 h4 (by decide), Blk.ne_ h1 h3 (by decide), Blk.ne_ h1 h4 (by decide)⟩
theorem Mms.to {w0 W W' : World} {p F q G : Nat} {st st' : St} (h : Mms w0 W p F q G st st') (hf : Fr [] W W') : Mms w0 W' p F q G st st' :=
  ⟨h.m.to hf (by simp) (by simp), h.r.to hf (by simp) (by simp), h.fr.trans hf, h.gp⟩
theorem Mms.lay {w0 W : World} {p F q G : Nat} {st st' : St} (h : Mms w0 W p F q G st st') (f : Int) (s : ByteArray) (hs : s.size ≤ maxLen) : Calls Try.prog 31 #[ptr p, .int .i64 f, .int .i64 0, .string s] W fun e w' => e = .returned (.int .i64 (layE st.n f 0 s)) ∧ Mms w0 w' p F q G (layS st f 0 s) st' := by
  obtain ⟨n1, n2, n3, n4⟩ := h.ne
  refine (Lay_law p F st W f s h.m hs).mono fun e w' ⟨he, hm, hf⟩ => ⟨he, hm, h.r.to hf (by simpa using n1.symm) (by simpa using n2.symm), h.fr.step hf (fun k hk => by simp at hk; subst hk; exact .inr h.gp.2.1), h.gp⟩
theorem Mms.rlay {w0 W : World} {p F q G : Nat} {st st' : St} (h : Mms w0 W p F q G st st') (f : Int) (s : ByteArray) (hs : s.size ≤ maxLen) : Calls Try.prog 43 #[ptr q, .int .i64 f, .int .i64 0, .string s] W fun e w' => e = .returned (.int .i64 (layE st'.n f 0 s)) ∧ Mms w0 w' p F q G st (layS st' f 0 s) := by
  obtain ⟨n1, n2, n3, n4⟩ := h.ne
  refine (rLay_law q G st' W f s h.r hs).mono fun e w' ⟨he, hm, hf⟩ => ⟨he, h.m.to hf (by simpa using n4) (by simpa using n2), hm, h.fr.step hf (fun k hk => by simp at hk; subst hk; exact .inr h.gp.2.2.2), h.gp⟩
theorem Mms.base {w0 w1 W : World} {p F q G : Nat} {st st' : St} (h : Mms w1 W p F q G st st') (hf : Fr [] w0 w1) : Mms w0 W p F q G st st' :=
  ⟨h.m, h.r, hf.trans h.fr, by have := hf.size; have := h.gp; omega⟩
/-- What made tells. -/
def MadeP (w : World) (n : Nat) (l : Nat → ByteArray) (nl : Nat) (e : Ending) (w' : World) : Prop :=
  ∃ p F q G, e = .returned (.tuple #[ptr p, ptr q]) ∧ Mms w w' p F q G (layN n l nl) (layN n l nl)
set_option maxHeartbeats 4000000 in
theorem made_ok (n : Nat) (LA : Option Addr) (nl cl : Nat) (l : Nat → ByteArray) (TA : Option Addr) (nt ct : Nat) (w : World) (h1 : 1 ≤ n) (h2 : n ≤ 160) (hl : PrZ w LA nl l) :
    Calls Try.prog 40 #[.agg #[.int .i64 (n : Int), .slice LA nl cl, .slice TA nt ct]] w (MadeP w n l nl) := by
  have H1 := Lib.hid (fun W => New_ok n W h1 h2)
  have H2 := Lib.hid (fun W => rNew_ok n W h1 h2)
  unfold RNewP at H2
  have HF := Lib.hid ((Fr.refl [] w).alloc (.cells #[.int .i64 (n : Int), .slice LA nl cl, .slice TA nt ct] 72))
  have HB := Lib.hid (Blk.new w 72 #[.int .i64 (n : Int), .slice LA nl cl, .slice TA nt ct])
  generalize hW0 : w.alloc (.cells #[.int .i64 (n : Int), .slice LA nl cl, .slice TA nt ct] 72) = W0 at *
  have HMs : Hid (∀ (W1 W2 : World) (p F q G : Nat), MemAt W1 p F (layN n l 0) → Fr [] W0 W1 → RMem W2 q G (layN n l 0) → Fr [] W1 W2 → W1.heap.size ≤ q → W1.heap.size ≤ G → W0.heap.size ≤ F → W0.heap.size ≤ p → Mms W0 W2 p F q G (layN n l 0) (layN n l 0)) :=
    Lib.hid (fun W1 W2 p F q G hm hf hr hf2 hq hG hF hp => ⟨hm.to hf2 (by simp) (by simp), hr, hf.trans hf2, by have := hf.size; omega⟩)
  have HL := Lib.hid (hl.fr HF.out)
  have hnl := hl.1
  simp only [maxLen] at hnl
  have c0 : W0.cell? ⟨w.heap.size, 0, none⟩ = some (.int .i64 (n : Int)) := HB.out.cell 0
  clear hl
  go_enter Try.func40, Try.ntmps40
  go_wp2_with (first
    | (go_at_call 29; refine (H1.out _).mono ?_; rintro e w1 ⟨rfl, hm1, hf1⟩; have HF1 := Lib.hid hf1; have c1 : w1.cell? ⟨w.heap.size, 0, none⟩ = some (.int .i64 (n : Int)) := (HB.out.fr hf1 (by simp)).cell 0; clear hf1)
    | (go_at_call 41; refine (H2.out _).mono ?_; rintro e w2 ⟨q, G, rfl, hm2, hf2, hq, hG⟩; have hd := HMs.out _ _ _ _ _ _ hm1 HF1.out hm2 hf2 hq hG (Nat.le_refl _) (Nat.le_succ _); clear hm1 hm2 hf2 hq hG c0 c1)
    | fail)
  have HD := Lib.hid hd
  clear hd
  go_loopg [8] nl (fun gg vi wr => ∃ (k : Nat), k + gg = nl ∧ vi = .int .i64 (k : Int) ∧ Mms W0 wr (W0.heap.size + 1) W0.heap.size q G (layN n l k) (layN n l k))
  case atStart => exact ⟨0, by omega, rfl, HD.out⟩
  case round =>
    obtain ⟨k, hk, rfl, hd⟩ := hrel
    have Hk := Lib.hid hk
    have Hd := Lib.hid hd
    have c1 : wr.cell? ⟨w.heap.size, 1, none⟩ = some (.slice LA nl cl) := (HB.out.fr hd.fr (by simp)).cell 1
    clear hk
    by_cases hlt : k < nl
    · have hlt' : (k : Int) < (nl : Int) := by omega
      have hk0 : (0 : Int) ≤ (k : Int) := by omega
      have hwk : IntKind.i64.wrap ((k : Int) + 1) = (k : Int) + 1 := IntWalk.i64_in _ (by omega)
      obtain ⟨hz, bl, ol, rfl, cl0⟩ := (HL.out.fr hd.fr).2 k hlt
      have hz1 := Lib.hid hz
      have HLy := Lib.hid (hd.lay (k : Int) (l k) hz)
      have HRy := Lib.hid (fun W (h : Mms W0 W (W0.heap.size + 1) W0.heap.size q G (layS (layN n l k) (k : Int) 0 (l k)) (layN n l k)) => h.rlay (k : Int) (l k) hz1.out)
      have HK := Lib.hid (fun W (h : Fr [] W0 W) => (show W.cell? ⟨w.heap.size, 1, none⟩ = some (.slice (some ⟨bl, ol, none⟩) nl cl) ∧ W.cell? ⟨bl, ol + k, none⟩ = some (.string (l k)) from by
        refine ⟨(HB.out.fr h (by simp)).cell 1, ?_⟩
        obtain ⟨-, b3, o3, e3, hc3⟩ := (HL.out.fr h).2 k hlt
        injection e3 with e3
        injection e3 with e3 e4
        subst e3 e4
        exact hc3))
      generalize layE (layN n l k).n (k : Int) 0 (l k) = E0 at *
      clear hd hz
      go_wp2_with (first
        | (go_at_call 31; refine HLy.out.mono ?_; clear HLy; rintro e w3 ⟨rfl, hd⟩; obtain ⟨d1, d2⟩ := HK.out _ hd.fr)
        | (go_at_call 43; refine (HRy.out _ hd).mono ?_; clear hd HRy; rintro e w4 ⟨rfl, hd4⟩)
        | fail)
      go_roundg (nl - (k + 1))
      case measure => have := Hk.out; omega
      case rel => exact ⟨k + 1, by have := Hk.out; omega, by go_num, hd4⟩
    · have hlt' : ¬ (k : Int) < (nl : Int) := by omega
      obtain rfl : k = nl := by have := Hk.out; omega
      clear hd
      go_wp2_with fail
      go_ret2
      exact ⟨_, _, _, _, rfl, Hd.out.base HF.out⟩
end Go.Proofs.Ytonongaakieciaa

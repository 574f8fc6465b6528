/- BlockSafe: two extents over one disk; what a barrier makes safe. -/
import Derived.Test.YthmnloapjdalpaaL22
namespace Go.Proofs.Ythmnloapjdalpaa
open Go.RowKit
set_option linter.unusedVariables false
set_option linter.unusedSimpArgs false
structure Tw (w0 w : World) (p : Nat) (d : Dk) (v : Nat) (b : Bv) (u : Nat) (c : Bv) : Prop where
  fr : Fr [] w0 w
  ex : ∃ g m, DiskAt w p g m d ∧ w0.heap.size ≤ p ∧ w0.heap.size ≤ g ∧ w0.heap.size ≤ m
  dev1 : DevAt w v p b
  dev2 : DevAt w u p c
  v0 : w0.heap.size ≤ v
  u0 : w0.heap.size ≤ u
  ne : v ≠ u
  in1 : b.first + b.count ≤ d.n
  in2 : c.first + c.count ≤ d.n
section
variable {w0 w : World} {p v u : Nat} {d : Dk} {b c : Bv}
theorem Tw.symm (h : Tw w0 w p d v b u c) : Tw w0 w p d u c v b := ⟨h.fr, h.ex, h.dev2, h.dev1, h.u0, h.v0, fun e => h.ne e.symm, h.in2, h.in1⟩
theorem Tw.to {w' : World} (h : Tw w0 w p d v b u c) (hf : Fr [] w w') : Tw w0 w' p d v b u c := by
  obtain ⟨f, ⟨g, m, a, x⟩, e1, e2, r1, r2, r3, r4, r5⟩ := h
  exact ⟨f.trans hf, ⟨g, m, a.to hf, x⟩, e1.to hf, e2.to hf, r1, r2, r3, r4, r5⟩
theorem Tw.left {F : FuncId} {args : Array Value} {V : Value} {b' : Bv} {d' : Dk} (h : Tw w0 w p d v b u c) (hn : d'.n = d.n)
    (C : ∀ z, Dvz z w w v p b d → Calls Try.prog F args w fun e w' => e = .returned V ∧ Dvz z w w' v p b' d') :
    Calls Try.prog F args w fun e w' => e = .returned V ∧ Tw w0 w' p d' v b' u c := by
  obtain ⟨f, ⟨g, m, a, x1, x2, x3⟩, e1, e2, v0, u0, ne, i1, i2⟩ := h
  have hz : Dvz [v, p, g, m] w w v p b d := ⟨⟨Fr.refl _ _, g, m, a, .inl (by simp), .inl (by simp), .inl (by simp)⟩, e1, .inl (by simp), i1⟩
  refine (C _ hz).mono fun e w' ⟨he, hd⟩ => ⟨he, ?_⟩
  obtain ⟨⟨hf, g', m', a', q1, q2, q3⟩, ed, qv, i1'⟩ := hd
  obtain ⟨ok1, cv1, hb1, hk1⟩ := e1
  obtain ⟨ok2, cv2, hb2, hk2⟩ := e2
  have hnk : NoK w [v, p, g, m] := fun k hk cs mk he => by
    simp only [List.mem_cons, List.not_mem_nil, or_false] at hk
    rcases hk with rfl | hk
    · exact hb1.noK (by decide) _ (by simp) cs mk he
    · exact a.nok k (by simpa using hk) cs mk he
  have hu : u ∉ [v, p, g, m] := fun hk => by
    rcases List.mem_cons.1 hk with e | hk
    · exact ne e.symm
    · exact a.far hb2 hk
  have e2' : DevAt w' u p c := ⟨ok2, cv2, hb2.fr hf hu, hk2.fr hf hnk⟩
  have hs := f.size
  have one : ∀ k, (k ∈ [v, p, g, m] ∨ w.heap.size ≤ k) → w0.heap.size ≤ k := fun k hk => by
    rcases hk with hk | hk
    · simp only [List.mem_cons, List.not_mem_nil, or_false] at hk
      omega
    · omega
  exact ⟨f.step hf (fun k hk => .inr (one k (.inl hk))), ⟨g', m', a', one _ q1, one _ q2, one _ q3⟩, ed, e2', v0, u0, ne, i1', by rw [hn]; exact i2⟩
theorem Tw.right {F : FuncId} {args : Array Value} {V : Value} {c' : Bv} {d' : Dk} (h : Tw w0 w p d v b u c) (hn : d'.n = d.n)
    (C : ∀ z, Dvz z w w u p c d → Calls Try.prog F args w fun e w' => e = .returned V ∧ Dvz z w w' u p c' d') :
    Calls Try.prog F args w fun e w' => e = .returned V ∧ Tw w0 w' p d' v b u c' := (h.symm.left hn C).mono fun e w' ⟨he, hd⟩ => ⟨he, hd.symm⟩
theorem Tw.made {w' : World} (h : Dv w0 w v p b d) (hf : Fr [] w w') (e : DevAt w' u p c) (hu : w.heap.size ≤ u) (hin : c.first + c.count ≤ d.n) : Tw w0 w' p d v b u c := by
  obtain ⟨⟨f, g, m, a, x⟩, ed, v0, i1⟩ := h
  have hs := f.size
  have hl := ed.lt
  exact ⟨f.trans hf, ⟨g, m, a.to hf, x⟩, ed.to hf, e, v0, by omega, by omega, i1, hin⟩
end
theorem die_sec {d : Dk} {i : Nat} (hu : d.u i = none) (l : List Int) : (d.die l).sec i = d.sec i := by
  rw [sec_none hu, sec_none (show (d.die l).u i = none from rfl)]
  refine bs_congr fun j hj => ?_
  show leftB d (chAt l) (i * 128 + j) = _
  unfold leftB
  rw [show (i * 128 + j) / 128 = i by omega, hu]
/-- An extent, calm: what is cached is what is read. -/
def SaI (w0 w : World) (v p F C N : Nat) : Prop := ∃ b d, Dv w0 w v p b d ∧ d.Calm ∧ Coh b d ∧ b.first = F ∧ b.count = C ∧ d.n = N ∧ b.misses = 0
/-- Its disk is dead, or lives again. -/
def SaB (w0 w : World) (v p F C N : Nat) : Prop := ∃ b d, Dv w0 w v p b d ∧ d.Calm ∧ Coh b d ∧ b.first = F ∧ b.count = C ∧ d.n = N ∧ b.misses = 0 ∧ ∀ i, i < C → d.u (F + i) = none
def SaX (w0 w : World) (v p F C N : Nat) : Prop := ∃ b d, Dv w0 w v p b d ∧ d.revive.Calm ∧ Coh b d ∧ b.first = F ∧ b.count = C ∧ d.n = N ∧ b.misses = 0
section
variable {w0 w : World} {v p F C N : Nat}
theorem SaI.fr (h : SaI w0 w v p F C N) : Fr [] w0 w := by
  obtain ⟨b, d, h, -⟩ := h
  exact h.fr
theorem SaB.fr (h : SaB w0 w v p F C N) : Fr [] w0 w := by
  obtain ⟨b, d, h, -⟩ := h
  exact h.fr
theorem SaI.to {w' : World} (h : SaI w0 w v p F C N) (hf : Fr [] w w') : SaI w0 w' v p F C N := by
  obtain ⟨b, d, h, r⟩ := h
  exact ⟨b, d, h.to hf, r⟩
theorem SaI.start {d : Dk} {f c k : Int} (h : Dv w0 w v p (newB f c k) d) (hc : d.Calm) (hf : f = F) (hcn : c = C) (hn : d.n = N) : SaI w0 w v p F C N :=
  ⟨_, d, h, hc, Coh.nil rfl d, by subst hf; show ((F : Nat) : Int).toNat = F; omega, by subst hcn; show ((C : Nat) : Int).toNat = C; omega, hn, rfl⟩
theorem SaI.write (h : SaI w0 w v p F C N) (a : Int) (t : ByteArray) (m : Int) (ht : t.size ≤ maxLen) : Calls Try.prog 25 #[ptr v, .int .i64 a, .string t, .int .i64 m] w fun e w' => ∃ E, e = .returned (.int .i64 E) ∧ SaI w0 w' v p F C N := by
  obtain ⟨b, d, h, h1, h2, h3, h4, h5, h6⟩ := h
  have s := writeB_same b d a t m
  exact (WriteB_any h a t m ht).mono fun e w' ⟨he, hd⟩ => ⟨_, he, _, _, hd, (writeD_out h1 a t m).2, h2.write h1 h.in_ a t m, by rw [s.1]; exact h3, by rw [s.2.1]; exact h4, (writeD_out h1 a t m).1.n.trans h5, by rw [s.2.2]; exact h6⟩
theorem SaI.barrier (h : SaI w0 w v p F C N) : Calls Try.prog 26 #[ptr v] w fun e w' => e = .returned (.int .i64 0) ∧ SaB w0 w' v p F C N := by
  obtain ⟨b, d, h, h1, h2, h3, h4, h5, h6⟩ := h
  have hin := h.in_
  have hE0 : d.flushE0 b.first b.count = 0 := by
    unfold Dk.flushE0
    rw [h1.d, if_neg (by simp), if_neg (by omega)]
  have hE : b.barrierE d = 0 := by
    unfold Bv.barrierE
    rw [h1.d, if_neg (by simp), h1.flushE, hE0]
  have hD : b.barrierD d = d.settle b.first (b.first + b.count) := by
    unfold Bv.barrierD
    rw [h1.d, if_neg (by simp), h1.flushS, if_pos hE0]
    congr 1
  refine (Barrier_any h).mono fun e w' ⟨he, hd⟩ => ⟨by rw [he, hE], _, _, hd, (barrierD_out h1).2, h2.barrier h.dd.ok h1, h3, h4, (barrierD_out h1).1.n.trans h5, h6, fun i hi => ?_⟩
  rw [hD]
  exact settleU d _ _ _ (by omega)
theorem SaB.crash (h : SaB w0 w v p F C N) {A : Option Addr} {n cap : Nat} {l : List Int} (hz : Zw w0 (.slice A n cap) l) : Calls Try.prog 32 #[ptr p, .slice A n cap] w fun e w' => e = .returned (.int .i64 0) ∧ SaX w0 w' v p F C N := by
  obtain ⟨b, d, h, h1, h2, h3, h4, h5, h6, h7⟩ := h
  have e1 : d.crashE = 0 := by unfold Dk.crashE; rw [h1.d]; rfl
  have e2 : d.crashS l = d.die l := by unfold Dk.crashS; rw [h1.d]; rfl
  have hz' : Zw w (.slice A n cap) l := hz.fr h.fr (NoZ.nil _)
  refine (h.crash hz').mono fun e w' ⟨he, hd⟩ => ⟨by rw [he, e1], b, d.die l, by rw [e2] at hd; exact hd, ⟨rfl, rfl⟩, h2.sec fun i hi => ?_, h3, h4, h5, h6⟩
  exact die_sec (by rw [h3]; exact h7 i (by omega)) l
theorem SaX.revive (h : SaX w0 w v p F C N) : Calls Try.prog 33 #[ptr p] w fun e w' => e = .returned (.tuple #[]) ∧ SaI w0 w' v p F C N := by
  obtain ⟨b, d, h, h1, h2, h3, h4, h5, h6⟩ := h
  exact h.revive.mono fun e w' ⟨he, hd⟩ => ⟨he, b, _, hd, h1, h2, h3, h4, h5, h6⟩
end
/-- Two extents that read alike. -/
def TwI (w0 w : World) (p v u F C : Nat) (i : Nat) : Prop := ∃ b c d, Tw w0 w p d v b u c ∧ d.Calm ∧ Coh b d ∧ Coh c d ∧ b.first = F ∧ b.count = C ∧ c.first = F ∧ c.count = C ∧ b.misses ≤ i ∧ c.misses ≤ i
/-- The first has told. -/
def TwH (w0 w : World) (p v u F C : Nat) (i : Nat) (S : ByteArray) (N E : Int) : Prop := ∃ b c d, Tw w0 w p d v b u c ∧ d.Calm ∧ Coh b d ∧ Coh c d ∧ b.first = F ∧ b.count = C ∧ c.first = F ∧ c.count = C ∧ b.misses ≤ i + 1 ∧ c.misses ≤ i ∧ c.readV d (i : Int) = .tuple #[.string S, .int .i64 N, .int .i64 E]
section
variable {w0 w : World} {p v u F C N i : Nat}
theorem TwI.fr (h : TwI w0 w p v u F C i) : Fr [] w0 w := by
  obtain ⟨b, c, d, h, -⟩ := h
  exact h.fr
theorem SaI.new (h : SaI w0 w v p F C N) (hin : F + C ≤ N) (hc : 1 ≤ C) : Calls Try.prog 23 #[ptr p, .int .i64 (F : Int), .int .i64 (C : Int), .int .i64 0] w fun e w' => ∃ u, e = .returned (.tuple #[ptr u, .int .i64 0]) ∧ TwI w0 w' p v u F C 0 := by
  obtain ⟨b, d, h, h1, h2, h3, h4, h5, h6⟩ := h
  have hE : newBE d (F : Int) (C : Int) 0 = 0 := by
    unfold newBE
    rw [if_neg (by omega)]
  have e1 : (newB (F : Int) (C : Int) 0).first = F := by show ((F : Nat) : Int).toNat = F; omega
  have e2 : (newB (F : Int) (C : Int) 0).count = C := by show ((C : Nat) : Int).toNat = C; omega
  exact (NewB_new h.dd _ _ _ hE).mono fun e w' ⟨u, he, hu, hs, hf⟩ => ⟨u, he, b, _, d, Tw.made h hf hu.dev hs hu.in_, h1, h2, Coh.nil rfl d, h3, h4, e1, e2, by omega, Nat.le_refl _⟩
theorem TwI.read (h : TwI w0 w p v u F C i) (hi : i < C) : ∃ S N E, Calls Try.prog 24 #[ptr v, .int .i64 (i : Int)] w fun e w' => e = .returned (.tuple #[.string S, .int .i64 N, .int .i64 E]) ∧ TwH w0 w' p v u F C i S N E := by
  obtain ⟨b, c, d, h, h1, h2, h3, h4, h5, h6, h7, h8, h9⟩ := h
  have hC : C ≤ 4096 := by have := h.dev1.ok.c; omega
  obtain ⟨S, N, E, r1, r2, -⟩ := readV_form h2 h3 (by omega) (by omega) h1 (i : Int)
  have s := readB_same b d (i : Int)
  have hq := h.left rfl fun z hz => ReadB_z hz (i : Int) (show b.misses < 9223372036854775807 by omega)
  rw [r1] at hq
  exact ⟨S, N, E, hq.mono fun e w' ⟨he, hd⟩ => ⟨he, _, c, d, hd, h1, h2.readB _, h3, by rw [s.1]; exact h4, by rw [s.2.1]; exact h5, h6, h7, by have := s.2.2; omega, h9, r2⟩⟩
theorem TwH.read {S : ByteArray} {M E : Int} (h : TwH w0 w p v u F C i S M E) (hi : i < C) : Calls Try.prog 24 #[ptr u, .int .i64 (i : Int)] w fun e w' => e = .returned (.tuple #[.string S, .int .i64 M, .int .i64 E]) ∧ TwI w0 w' p v u F C (i + 1) := by
  obtain ⟨b, c, d, h, h1, h2, h3, h4, h5, h6, h7, h8, h9, h10⟩ := h
  have hC : C ≤ 4096 := by have := h.dev1.ok.c; omega
  have s := readB_same c d (i : Int)
  have hq := h.right rfl fun z hz => ReadB_z hz (i : Int) (show c.misses < 9223372036854775807 by omega)
  rw [h10] at hq
  exact hq.mono fun e w' ⟨he, hd⟩ => ⟨he, b, _, d, hd, h1, h2, h3.readB _, h4, h5, by rw [s.1]; exact h6, by rw [s.2.1]; exact h7, h8, by have := s.2.2; omega⟩
end
end Go.Proofs.Ythmnloapjdalpaa

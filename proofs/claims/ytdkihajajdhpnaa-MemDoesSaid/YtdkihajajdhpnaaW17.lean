/- MemApart's worlds: three memories, two tables, a script. -/
import Derived.Test.YtdkihajajdhpnaaW16
import Derived.Test.YtdkihajajdhpnaaOps
namespace Go.Proofs.Ytdkihajajdhpnaa
open Go.RowKit
set_option linter.unusedVariables false
set_option linter.unusedSimpArgs false
/-- Where all lies. -/
structure ApL where
  p : Nat
  F : Nat
  px : Nat
  Fx : Nat
  py : Nat
  Fy : Nat
  b1 : Nat
  b2 : Nat
  A1 : Option Addr
  A2 : Option Addr
  As : Option Addr
  m1 : Nat
  c1 : Nat
  m2 : Nat
  c2 : Nat
  n : Nat
  cs : Nat
  t1 : List Pg
  t2 : List Pg
  ops : Nat → OpM
/-- The blocks that are written lie apart from all others. -/
structure ApN (L : ApL) : Prop where
  f : L.p ≠ L.F ∧ L.px ≠ L.F ∧ L.py ≠ L.F ∧ L.Fx ≠ L.F ∧ L.Fy ≠ L.F ∧ L.b1 ≠ L.F ∧ L.b2 ≠ L.F
  x : L.p ≠ L.Fx ∧ L.px ≠ L.Fx ∧ L.py ≠ L.Fx ∧ L.F ≠ L.Fx ∧ L.Fy ≠ L.Fx ∧ L.b1 ≠ L.Fx ∧ L.b2 ≠ L.Fx
  s : 0 < L.n → ∀ b off, L.As = some ⟨b, off, none⟩ → b ≠ L.F ∧ b ≠ L.Fx
/-- What lies there. -/
structure Ap (W : World) (L : ApL) (st st' st0 : St) : Prop where
  m : MemAt W L.p L.F st
  x : MemAt W L.px L.Fx st'
  y : MemAt W L.py L.Fy st0
  one : Tb W L.b1 (.slice L.A1 L.m1 L.c1) L.t1
  two : Tb W L.b2 (.slice L.A2 L.m2 L.c2) L.t2
  ops : OpsIn W (.slice L.As L.n L.cs) L.n L.ops
  h1 : L.b1 < W.heap.size
  h2 : L.b2 < W.heap.size
theorem OpsIn.frS {w w' : World} {S : List Nat} {A : Option Addr} {n cap : Nat} {ops : Nat → OpM} (h : OpsIn w (.slice A n cap) n ops) (hf : Fr S w w') (hs : 0 < n → ∀ b off, A = some ⟨b, off, none⟩ → b ∉ S) : OpsIn w' (.slice A n cap) n ops := by
  refine ⟨h.1, A, cap, rfl, fun i hi => ?_⟩
  obtain ⟨b, off, hA, hb, hc⟩ := h.at_ hi
  have hz := hf.size
  exact ⟨b, off, hA, by omega, OpM.fr (x := ops i) hc hf (hs (by omega) b off hA)⟩
section
variable {W W' : World} {L : ApL} {st st' st0 : St}
theorem Ap.fr (h : Ap W L st st' st0) (hf : Fr [] W W') : Ap W' L st st' st0 :=
  ⟨h.m.to hf (by simp) (by simp), h.x.to hf (by simp) (by simp), h.y.to hf (by simp) (by simp), h.one.fr hf (by simp), h.two.fr hf (by simp), h.ops.fr hf, Nat.lt_of_lt_of_le h.h1 hf.size, Nat.lt_of_lt_of_le h.h2 hf.size⟩
theorem Ap.setM (h : Ap W L st st' st0) (hn : ApN L) {st1 : St} (hm : MemAt W' L.p L.F st1) (hf : Fr [L.F] W W') : Ap W' L st1 st' st0 :=
  ⟨hm, h.x.to hf (by simpa using hn.f.2.1) (by simpa using hn.f.2.2.2.1), h.y.to hf (by simpa using hn.f.2.2.1) (by simpa using hn.f.2.2.2.2.1), h.one.fr hf (by simpa using hn.f.2.2.2.2.2.1), h.two.fr hf (by simpa using hn.f.2.2.2.2.2.2),
    h.ops.frS hf (fun h0 b off hA => by simpa using (hn.s h0 b off hA).1), Nat.lt_of_lt_of_le h.h1 hf.size, Nat.lt_of_lt_of_le h.h2 hf.size⟩
theorem Ap.setX (h : Ap W L st st' st0) (hn : ApN L) {st1 : St} (hm : MemAt W' L.px L.Fx st1) (hf : Fr [L.Fx] W W') : Ap W' L st st1 st0 :=
  ⟨h.m.to hf (by simpa using hn.x.1) (by simpa using hn.x.2.2.2.1), hm, h.y.to hf (by simpa using hn.x.2.2.1) (by simpa using hn.x.2.2.2.2.1), h.one.fr hf (by simpa using hn.x.2.2.2.2.2.1), h.two.fr hf (by simpa using hn.x.2.2.2.2.2.2),
    h.ops.frS hf (fun h0 b off hA => by simpa using (hn.s h0 b off hA).2), Nat.lt_of_lt_of_le h.h1 hf.size, Nat.lt_of_lt_of_le h.h2 hf.size⟩
theorem Ap.readM (h : Ap W L st st' st0) (a n r : Int) (ha : a ≤ 9223372036854775807) : Calls Try.prog 18 #[ptr L.p, .slice L.A1 L.m1 L.c1, .int .i64 a, .int .i64 n, .int .i64 r] W (ReadP W st L.t1 a n r) := Read_any L.b1 L.p L.F L.m1 L.c1 st L.A1 L.t1 a n r W h.one h.m ha h.h1
theorem Ap.readX (h : Ap W L st st' st0) (a n r : Int) (ha : a ≤ 9223372036854775807) : Calls Try.prog 18 #[ptr L.px, .slice L.A1 L.m1 L.c1, .int .i64 a, .int .i64 n, .int .i64 r] W (ReadP W st' L.t1 a n r) := Read_any L.b1 L.px L.Fx L.m1 L.c1 st' L.A1 L.t1 a n r W h.one h.x ha h.h1
theorem Ap.readM2 (h : Ap W L st st' st0) (a n r : Int) (ha : a ≤ 9223372036854775807) : Calls Try.prog 18 #[ptr L.p, .slice L.A2 L.m2 L.c2, .int .i64 a, .int .i64 n, .int .i64 r] W (ReadP W st L.t2 a n r) := Read_any L.b2 L.p L.F L.m2 L.c2 st L.A2 L.t2 a n r W h.two h.m ha h.h2
theorem Ap.readY2 (h : Ap W L st st' st0) (a n r : Int) (ha : a ≤ 9223372036854775807) : Calls Try.prog 18 #[ptr L.py, .slice L.A2 L.m2 L.c2, .int .i64 a, .int .i64 n, .int .i64 r] W (ReadP W st0 L.t2 a n r) := Read_any L.b2 L.py L.Fy L.m2 L.c2 st0 L.A2 L.t2 a n r W h.two h.y ha h.h2
theorem Ap.loadM (h : Ap W L st st' st0) (a k r : Int) (ha : a ≤ 9223372036854775807) : Calls Try.prog 16 #[ptr L.p, .slice L.A1 L.m1 L.c1, .int .i64 a, .int .i64 k, .int .i64 r] W fun e w' => e = .returned (.tuple #[.int .i64 (ldR st L.t1 a k r).1, .int .i64 (ldR st L.t1 a k r).2]) ∧ Fr [] W w' := Load_any L.b1 L.p L.F L.m1 L.c1 st L.A1 L.t1 a k r W h.one h.m ha h.h1
theorem Ap.loadX (h : Ap W L st st' st0) (a k r : Int) (ha : a ≤ 9223372036854775807) : Calls Try.prog 16 #[ptr L.px, .slice L.A1 L.m1 L.c1, .int .i64 a, .int .i64 k, .int .i64 r] W fun e w' => e = .returned (.tuple #[.int .i64 (ldR st' L.t1 a k r).1, .int .i64 (ldR st' L.t1 a k r).2]) ∧ Fr [] W w' := Load_any L.b1 L.px L.Fx L.m1 L.c1 st' L.A1 L.t1 a k r W h.one h.x ha h.h1
def WrP (W : World) (L : ApL) (st st' st0 : St) (F : Nat) (r : Int) (e : Ending) (w' : World) : Prop := e = .returned (.int .i64 r) ∧ Ap w' L st st' st0 ∧ Fr [F] W w'
theorem Ap.writeM (h : Ap W L st st' st0) (hn : ApN L) (a : Int) (s : ByteArray) (ha : a ≤ 9223372036854775807) : Calls Try.prog 14 #[ptr L.p, .slice L.A1 L.m1 L.c1, .int .i64 a, .string s] W (WrP W L (wrS st L.t1 a s) st' st0 L.F (wrE st L.t1 a s)) :=
  (Write_any L.b1 L.p L.F L.m1 L.c1 st L.A1 L.t1 a s W h.one h.m ha h.h1).mono fun e w' ⟨he, hm, hf⟩ => ⟨he, h.setM hn hm hf, hf⟩
theorem Ap.writeX (h : Ap W L st st' st0) (hn : ApN L) (a : Int) (s : ByteArray) (ha : a ≤ 9223372036854775807) : Calls Try.prog 14 #[ptr L.px, .slice L.A1 L.m1 L.c1, .int .i64 a, .string s] W (WrP W L st (wrS st' L.t1 a s) st0 L.Fx (wrE st' L.t1 a s)) :=
  (Write_any L.b1 L.px L.Fx L.m1 L.c1 st' L.A1 L.t1 a s W h.one h.x ha h.h1).mono fun e w' ⟨he, hm, hf⟩ => ⟨he, h.setX hn hm hf, hf⟩
theorem Ap.storeM (h : Ap W L st st' st0) (hn : ApN L) (a k n : Int) (ha : a ≤ 9223372036854775807) : Calls Try.prog 29 #[ptr L.p, .slice L.A1 L.m1 L.c1, .int .i64 a, .int .i64 k, .int .i64 n] W (WrP W L (stS st L.t1 a k n) st' st0 L.F (stE st L.t1 a k n)) :=
  (Store_any L.b1 L.p L.F L.m1 L.c1 st L.A1 L.t1 a k n W h.one h.m ha h.h1).mono fun e w' ⟨he, hm, hf⟩ => ⟨he, h.setM hn hm hf, hf⟩
theorem Ap.storeX (h : Ap W L st st' st0) (hn : ApN L) (a k n : Int) (ha : a ≤ 9223372036854775807) : Calls Try.prog 29 #[ptr L.px, .slice L.A1 L.m1 L.c1, .int .i64 a, .int .i64 k, .int .i64 n] W (WrP W L st (stS st' L.t1 a k n) st0 L.Fx (stE st' L.t1 a k n)) :=
  (Store_any L.b1 L.px L.Fx L.m1 L.c1 st' L.A1 L.t1 a k n W h.one h.x ha h.h1).mono fun e w' ⟨he, hm, hf⟩ => ⟨he, h.setX hn hm hf, hf⟩
end
theorem Fr.late {w W W' : World} {k : Nat} (h : Fr [] w W) (hf : Fr [k] W W') (hk : w.heap.size ≤ k) : Fr [] w W' := h.step hf (fun j hj => by simp at hj; subst hj; exact .inr hk)
/-- What is kept while the script runs. -/
structure Keep8 (L : ApL) (n : Nat) (st st' st0 : St) : Prop where
  nn : st.n = n
  n0 : st0.n = n
  alike : Alike8 L.t1 st st'
  off : ∀ j, onF L.t2 j → st.b j = st0.b j
section
variable {L : ApL} {n : Nat} {st st' st0 : St}
theorem Keep8.wr (h : Keep8 L n st st' st0) (hs : noSh L.t1 L.t2) (a : Int) (s : ByteArray) : Keep8 L n (wrS st L.t1 a s) (wrS st' L.t1 a s) st0 :=
  ⟨(wrS_n _ _ _ _).trans h.nn, h.n0, wr_alike h.alike a s, fun j hj => (wr_off a s (noSh_off hs hj)).trans (h.off j hj)⟩
theorem Keep8.sto (h : Keep8 L n st st' st0) (hs : noSh L.t1 L.t2) (a k m : Int) : Keep8 L n (stS st L.t1 a k m) (stS st' L.t1 a k m) st0 :=
  ⟨stS_n.trans h.nn, h.n0, st_alike h.alike a k m, fun j hj => (st_off a k m (noSh_off hs hj)).trans (h.off j hj)⟩
theorem Keep8.two (h : Keep8 L n st st' st0) : Alike8 L.t2 st st0 := ⟨h.nn.trans h.n0.symm, h.off⟩
end
end Go.Proofs.Ytdkihajajdhpnaa

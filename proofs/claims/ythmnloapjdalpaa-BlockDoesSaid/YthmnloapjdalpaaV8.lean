/- does: the power goes; any call. -/
import Derived.Test.YthmnloapjdalpaaV7
namespace Go.Proofs.Ythmnloapjdalpaa
open Go.RowKit
set_option linter.unusedVariables false
set_option linter.unusedSimpArgs false
set_option maxRecDepth 100000 in
set_option maxHeartbeats 1000000 in
theorem does5 {z : List Nat} {w : World} {s v p y q : Nat} {b : Bv} {d : Dk} {x : OpB} {cA : Option Addr} {cl cc : Nat} {f c k : Int} (h : SideA z w s v p y q b d x cA cl cc f c k) (hk : x.kind = 5) : Calls Try.prog 41 #[ptr s, .agg (x.v (.slice cA cl cc)), .int .i64 f, .int .i64 c, .int .i64 k] w (DoesQ z w s p q b d) := by
  obtain ⟨w1, hw1⟩ : ∃ w1, w.alloc (.cells (x.v (.slice cA cl cc)) 44) = w1 := ⟨_, rfl⟩
  have HB := h.boxed hw1
  have hd := HB.h
  have hA := (wf_le h.fine.a).2
  have hok := h.h.pr.y.ok
  have hco := h.co
  have hin := h.h.iv
  have HX := Lib.hid (fun W b1 b2 d1 d2 (hd : Sq z w1 W s v p y q b1 b2 d1 d2) => HB.all hd)
  have HZ := Lib.hid HB.zw
  have hs1 : w.heap.size ≤ w1.heap.size := by rw [← hw1]; simp
  have H1 : Hid (∀ W, Sq z w1 W s v p y q b b d d → Calls Try.prog 32 #[ptr p, .slice cA cl cc] W fun e w' => e = .returned (.int .i64 d.crashE) ∧ Sq z w1 w' s v p y q b b (d.crashS x.ch) d) := Lib.hid fun W hh => hh.disk (fun g m ha => Crash_any p g m d cA cl cc x.ch W ha (HZ.out _ hh.fr)) (crashS_n _ _)
  have H2 : Hid (∀ W, Sq z w1 W s v p y q b b (d.crashS x.ch) d → Calls Try.prog 83 #[ptr q, .slice cA cl cc] W fun e w' => e = .returned (.int .i64 d.crashE) ∧ Sq z w1 w' s v p y q b b (d.crashS x.ch) (d.crashS x.ch)) := Lib.hid fun W hh => hh.rdisk (fun hr => rCrash_any q d cA cl cc x.ch W hr (HZ.out _ hh.fr)) (crashS_n _ _)
  have H3 : Hid (∀ W, Sq z w1 W s v p y q b b (d.crashS x.ch) (d.crashS x.ch) → Calls Try.prog 33 #[ptr p] W fun e w' => e = .returned (.tuple #[]) ∧ Sq z w1 w' s v p y q b b (d.crashS x.ch).revive (d.crashS x.ch)) := Lib.hid fun W hh => hh.disk (fun g m ha => (Revive_any p g m _ W ha).mono fun e w' ⟨he, hD, hf⟩ => ⟨he, .of_same hD hf⟩) rfl
  have H4 : Hid (∀ W, Sq z w1 W s v p y q b b (d.crashS x.ch).revive (d.crashS x.ch) → Calls Try.prog 84 #[ptr q] W fun e w' => e = .returned (.tuple #[]) ∧ Sq z w1 w' s v p y q b b (d.crashS x.ch).revive (d.crashS x.ch).revive) := Lib.hid fun W hh => hh.rdisk (fun hr => rRevive_any q _ W hr) rfl
  have hn : (d.crashS x.ch).revive.n = d.n := crashS_n _ _
  have hE2 : newBE (d.crashS x.ch).revive f c k = 0 := by rw [newBE_same hn]; exact h.e
  have H5 := Lib.hid (fun W (hh : Sq z w1 W s v p y q b b (d.crashS x.ch).revive (d.crashS x.ch).revive) => hh.new f c k hE2)
  have H6 := Lib.hid (fun W (hh : Sq z w1 W s v p y q b b (d.crashS x.ch).revive (d.crashS x.ch).revive) => hh.rnew f c k hE2)
  have HE := Lib.hid (fun W v' y' (hh : Sq z w1 W s v' p y' q (newB f c k) (newB f c k) (d.crashS x.ch).revive (d.crashS x.ch).revive) => HB.fin W v' y' _ _ hh (fun _ => Coh.nil rfl _) (Nat.zero_le _) hn)
  unfold OpB.v at hw1 ⊢
  rw [hk] at HX hw1 ⊢
  obtain ⟨s0, s1, s2, s3, m0, m1, m2, m3, m4, m5⟩ := HX.out _ _ _ _ _ hd
  clear h HB hA hok hco hin
  clear hn hE2
  generalize (d.crashS x.ch).revive = D2 at *
  generalize d.crashS x.ch = D1 at *
  generalize d.crashE = E at *
  generalize newB f c k = nb at *
  go_enter Try.func41, Try.ntmps41
  go_wp2_with fail
  have hd := hd.to (Fr.refl [] _).drew
  have k0 := HX.out _ _ _ _ _ hd
  go_region_held3 (fun W => W.cell? ⟨s, 0, none⟩ = some (ptr v) ∧ W.cell? ⟨s, 1, none⟩ = some (ptr p) ∧ W.cell? ⟨s, 2, none⟩ = some (ptr y) ∧ W.cell? ⟨s, 3, none⟩ = some (ptr q) ∧ W.cell? ⟨w.heap.size, 0, none⟩ = some (.int .i64 x.on) ∧ W.cell? ⟨w.heap.size, 1, none⟩ = some (.int .i64 5) ∧ W.cell? ⟨w.heap.size, 2, none⟩ = some (.int .i64 x.a) ∧ W.cell? ⟨w.heap.size, 3, none⟩ = some (.int .i64 x.b) ∧ W.cell? ⟨w.heap.size, 4, none⟩ = some (.string x.s) ∧ W.cell? ⟨w.heap.size, 5, none⟩ = some (.slice cA cl cc))
    (first | exact kk | exact k0) (first
    | (go_at_call 83; have hq := H2.out _ hd; clear hd; refine hq.mono ?_; clear hq; rintro e w5 ⟨rfl, hd⟩; have kk := HX.out _ _ _ _ _ hd)
    | (go_at_call 32; have hq := H1.out _ hd; clear hd; refine hq.mono ?_; clear hq; rintro e w5 ⟨rfl, hd⟩; have kk := HX.out _ _ _ _ _ hd))
  obtain ⟨s0, s1, s2, s3, m0, m1, m2, m3, m4, m5⟩ := kk
  clear k0
  go_upto_region 25 with (first
    | (go_at_call 36; have z6 := hd.fr.size; have hq := H6.out _ hd; clear hd; refine hq.mono ?_; clear hq; rintro e w9 ⟨y', rfl, hry, i2, hd, hfy, hys⟩; have Hv9 := Lib.hid (Hv8.out.to hfy); obtain ⟨t0, t1, t2, t3, -⟩ := HX.out _ _ _ _ _ hd)
    | (go_at_call 23; have z5 := hd.fr.size; have hq := H5.out _ hd; clear hd; refine hq.mono ?_; clear hq; rintro e w8 ⟨v', rfl, hdv, i1, hd, hvs⟩; have Hv8 := Lib.hid hdv; clear hdv; obtain ⟨t0, t1, t2, t3, -⟩ := HX.out _ _ _ _ _ hd)
    | (go_at_call 84; have hq := H4.out _ hd; clear hd; refine hq.mono ?_; clear hq; rintro e w7 ⟨rfl, hd⟩; obtain ⟨t0, t1, t2, t3, -⟩ := HX.out _ _ _ _ _ hd)
    | (go_at_call 33; have hq := H3.out _ hd; clear hd; refine hq.mono ?_; clear hq; rintro e w6 ⟨rfl, hd⟩; obtain ⟨t0, t1, t2, t3, -⟩ := HX.out _ _ _ _ _ hd))
  have g0 := hd.frozen 0
  have g2 := hd.frozen 2
  have HF := Lib.hid (HE.out _ _ _ (hd.swap Hv9.out hry i1 i2 (by omega) (by omega)))
  clear hd hry
  go_wp2_with fail
  go_ret
  exact HF.out
theorem does_any {z : List Nat} {w : World} {s v p y q : Nat} {b : Bv} {d : Dk} {x : OpB} {cA : Option Addr} {cl cc : Nat} {f c k : Int} (h : SideA z w s v p y q b d x cA cl cc f c k) : Calls Try.prog 41 #[ptr s, .agg (x.v (.slice cA cl cc)), .int .i64 f, .int .i64 c, .int .i64 k] w (DoesQ z w s p q b d) := by
  by_cases h0 : x.kind = 0
  · exact does0 h h0
  by_cases h1 : x.kind = 1
  · exact does1 h h1
  by_cases h2 : x.kind = 2
  · exact does2 h h2
  by_cases h3 : x.kind = 3
  · exact does3 h h3
  by_cases h4 : x.kind = 4
  · exact does4 h h4
  by_cases h5 : x.kind = 5
  · exact does5 h h5
  · exact doesN h ⟨h0, h1, h2, h3, h4, h5⟩
end Go.Proofs.Ythmnloapjdalpaa

/- The reference's extent (castellanref15) in memory: asked, cached, touch, New, Copy. The reference's extent: New, Copy, Read, Stamp, Write, Barrier. -/
import Derived.Test.YthmnloapjdalpaaK17
import Derived.Test.YthmnloapjdalpaaB5
namespace Go.Proofs.Ythmnloapjdalpaa
open Go.RowKit
set_option linter.unusedVariables false
set_option linter.unusedSimpArgs false
/-- Which blocks are cached. -/
def ats (l : List Kp) : List Int := l.map fun o => o.at_
theorem ats_len (l : List Kp) : (ats l).length = l.length := by simp [ats]
/-- The reference's extent in block y, over the disk in block q. -/
structure RvAt (w : World) (y q : Nat) (b : Bv) : Prop where
  ok : b.Ok
  hd : ∃ cv, Blk w y 77 #[ptr q, .int .i64 b.first, .int .i64 b.count, .int .i64 b.cached, cv, .int .i64 b.misses] ∧ Zs w cv (ats b.cache)
section
variable {w w' : World} {y q : Nat} {b : Bv}
theorem RvAt.fr {S : List Nat} (h : RvAt w y q b) (hf : Fr S w w') (hy : y ∉ S) (hz : NoZ w S) : RvAt w' y q b := by
  obtain ⟨ok, cv, hb, hc⟩ := h
  exact ⟨ok, cv, hb.fr hf hy, hc.fr hf hz⟩
theorem RvAt.to (h : RvAt w y q b) (hf : Fr [] w w') : RvAt w' y q b := h.fr hf (by simp) (NoZ.nil _)
theorem RvAt.blk (h : RvAt w y q b) : ∃ cs, Blk w y 77 cs := by
  obtain ⟨ok, cv, hb, hc⟩ := h
  exact ⟨_, hb⟩
theorem RvAt.lt (h : RvAt w y q b) : y < w.heap.size := by
  obtain ⟨cs, hb⟩ := h.blk
  exact hb.lt
theorem RvAt.form (h : RvAt w y q b) : ∃ A cap, Blk w y 77 #[ptr q, .int .i64 b.first, .int .i64 b.count, .int .i64 b.cached, .slice A b.cache.length cap, .int .i64 b.misses] ∧ Zs w (.slice A b.cache.length cap) (ats b.cache) := by
  obtain ⟨ok, cv, hb, hc⟩ := h
  have hc' := hc
  obtain ⟨A, cap, rfl, -⟩ := hc
  rw [ats_len] at hb hc'
  exact ⟨A, cap, hb, hc'⟩
end
/-- The reference's extent and its disk. -/
structure Rvd (w : World) (y q : Nat) (b : Bv) (d : Dk) : Prop where
  rv : RvAt w y q b
  rd : RD w q d
  in_ : b.first + b.count ≤ d.n
theorem Rvd.to {w w' : World} {y q : Nat} {b : Bv} {d : Dk} (h : Rvd w y q b d) (hf : Fr [] w w') : Rvd w' y q b d := ⟨h.rv.to hf, h.rd.to hf, h.in_⟩
theorem rAsked_any (y q : Nat) (b : Bv) (d : Dk) (i : Int) (w : World) (h : Rvd w y q b d) : Calls Try.prog 104 #[ptr y, .int .i64 i] w fun e w' => e = .returned (.int .i64 (askedE b d i)) ∧ w = w' := by
  obtain ⟨A, cap, hb, hz⟩ := h.rv.form
  obtain ⟨A0, cap0, cv, L, hq, -⟩ := h.rd.form
  have c0 := hb.cell 0
  have c2 := hb.cell 2
  have d3 := hq.cell 3
  simp at c0 c2 d3
  have E : Hid (askedE b d i = if d.dead then (2 : Int) else if i < 0 ∨ (b.count : Int) ≤ i then 151 else 0) := Lib.hid rfl
  rw [E.out]
  clear h hb hz hq E
  generalize b.count = N at *
  cases hd : d.dead with
  | true =>
    rw [hd] at d3
    go_enter Try.func104, Try.ntmps104
    go_wp2
    go_ret
    exact ⟨rfl, rfl⟩
  | false =>
    rw [hd] at d3
    rw [if_neg (by simp)]
    by_cases h1 : i < 0
    · rw [if_pos (.inl h1)]
      go_enter Try.func104, Try.ntmps104
      go_wp2
      go_ret
      exact ⟨rfl, rfl⟩
    · by_cases h2 : (N : Int) ≤ i
      · rw [if_pos (.inr h2)]
        go_enter Try.func104, Try.ntmps104
        go_wp2
        go_ret
        exact ⟨rfl, rfl⟩
      · rw [if_neg (by omega)]
        go_enter Try.func104, Try.ntmps104
        go_wp2
        go_ret
        exact ⟨rfl, rfl⟩
theorem find_ats (b : Bv) (i : Int) : (b.find i).isSome = decide (i ∈ ats b.cache) := by
  unfold Bv.find ats
  rw [Bool.eq_iff_iff, List.find?_isSome, decide_eq_true_eq, List.mem_map]
  constructor
  · rintro ⟨o, h1, h2⟩
    exact ⟨o, h1, by simpa using h2⟩
  · rintro ⟨o, h1, h2⟩
    exact ⟨o, h1, by simpa using h2⟩
set_option maxRecDepth 100000 in
theorem rCached_any (y q : Nat) (b : Bv) (i : Int) (w : World) (h : RvAt w y q b) : Calls Try.prog 105 #[ptr y, .int .i64 i] w fun e w' => e = .returned (.bool (b.find i).isSome) ∧ w = w' := by
  rw [find_ats]
  obtain ⟨A, cap, hb, hz⟩ := h.form
  have c4 := hb.cell 4
  simp at c4
  have hl := h.ok.l
  obtain ⟨N, hN⟩ : ∃ N, b.cache.length = N := ⟨_, rfl⟩
  have hNl : (ats b.cache).length = N := by rw [ats_len]; exact hN
  rw [hN] at c4 hz hl
  clear h hb hN
  generalize ats b.cache = l at *
  have HZ := Lib.hid hz
  have HN := Lib.hid hNl
  clear hz hNl
  go_enter Try.func105, Try.ntmps105
  go_wp2_with fail
  go_loopg [5] N (fun gg vi wr => ∃ (k : Nat), k + gg = N ∧ vi = .int .i64 (k : Int) ∧ w = wr ∧ i ∉ l.take k)
  case atStart => exact ⟨0, by omega, rfl, rfl, by simp⟩
  case round =>
    obtain ⟨k, hk, rfl, rfl, hn⟩ := hrel
    have Hk := Lib.hid hk
    have Hn := Lib.hid hn
    clear hk hn
    by_cases hlt : k < N
    · have hlt' : (k : Int) < (N : Int) := by omega
      have hk0 : (0 : Int) ≤ (k : Int) := by omega
      have hwk : IntKind.i64.wrap ((k : Int) + 1) = (k : Int) + 1 := IntWalk.i64_in _ (by omega)
      have hx : l[k]? = some (l[k]'(by have := HN.out; omega)) := List.getElem?_eq_getElem (by have := HN.out; omega)
      generalize l[k]'(by have := HN.out; omega) = x at hx
      obtain ⟨q', o', rfl, -, hc⟩ := HZ.out.cell hx
      have Hx := Lib.hid hx
      clear hx
      by_cases he : x = i
      · have HM : Hid (i ∈ l) := Lib.hid (he ▸ List.mem_of_getElem? Hx.out)
        subst he
        go_wp2_with fail
        go_ret
        exact ⟨by rw [decide_eq_true HM.out]; rfl, rfl⟩
      · have HE := Lib.hid he
        have hbe : (x == i) = false := beq_false_of_ne he
        go_wp2_with fail
        go_roundg (N - (k + 1))
        case measure => have := Hk.out; omega
        case rel => exact ⟨k + 1, by have := Hk.out; omega, by go_num, rfl, fun hm => by
          rw [List.take_add_one, Hx.out] at hm
          rcases List.mem_append.1 hm with hm | hm
          · exact Hn.out hm
          · simp at hm
            exact HE.out hm.symm⟩
    · have hlt' : ¬ (k : Int) < (N : Int) := by omega
      have HM : Hid (¬ i ∈ l) := Lib.hid (by have := Hn.out; rwa [List.take_of_length_le (by have := HN.out; omega)] at this)
      go_wp2_with fail
      go_ret
      exact ⟨by rw [decide_eq_false HM.out]; rfl, rfl⟩
theorem elem42 : Try.prog.elem 42 = 3 := by kernel_rfl
theorem sizeOf3 (w : World) : (Go.sizeOf 3).run Try.prog w = .ok 1 w := by kernel_rfl
/-- A slice's tail. -/
theorem Zs.tail {w : World} {ad : Addr} {n cap : Nat} {x : Int} {l : List Int} (h : Zs w (.slice (some ad) n cap) (x :: l)) : ∃ A' cap', (∀ wx, (Instr.slice 42 (.slice (some ad) n cap) (some (.int .i64 1)) none none).run Try.prog wx = .ok (.slice (some A') (n - 1) cap') wx) ∧ Zs w (.slice (some A') (n - 1) cap') l := by
  obtain ⟨A0, cap0, e1, h2, h3, h4, h5⟩ := h
  injection e1 with e1 en ec
  subst e1 ec
  simp only [List.length_cons] at en h2
  have hl : l.length = n - 1 := by omega
  obtain ⟨ad', had⟩ : ∃ ad', (if cap = 1 then some ad else (some ad).map (·.add (1 * 1))) = some ad' := by
    split <;> exact ⟨_, rfl⟩
  refine ⟨ad', cap - 1, fun wx => ?_, ?_⟩
  · have := run_slice_l (P := Try.prog) wx 42 (some ad) n cap (by rw [elem42]; exact Try.underlying42) .i64 1 (by omega) (by omega)
    rw [elem42, sizeOf3] at this
    rw [← had]
    exact this.trans (by simp [Result.andThen, sliced])
  · refine ⟨_, cap - 1, by rw [hl], by rw [hl]; omega, by omega, fun h => by (cases h), ?_⟩
    by_cases hle : n = 1
    · exact .inl (List.eq_nil_of_length_eq_zero (by omega))
    · right
      rcases h5 with h5 | ⟨q, o, cs, mk, e, h6, h7⟩
      · cases h5
      · injection e with e
        subst e
        refine ⟨q, o + 1, cs, mk, ?_, h6, fun j z hj => ?_⟩
        · rw [← had, if_neg (by omega)]
          simp only [Option.map_some]
          rw [addr_add]
        · have := h7 (j + 1) z (by simpa using hj)
          rw [show o + 1 + j = o + (j + 1) by omega]
          exact this
def touchA (r : List Int) (a : Int) : List Int := (r.filter fun x => !decide (x = a)) ++ [a]
theorem touchA_ats (l : List Kp) (k : Kp) : touchA (ats l) k.at_ = ats (touchR l k) := by
  unfold touchA touchR ats
  rw [List.map_append, List.filter_map]
  rfl
theorem touchL_ats (l : List Kp) (k : Kp) (c : Nat) : ats (touchL l k c) = (touchA (ats l) k.at_).drop ((touchA (ats l) k.at_).length - c) := by
  rw [touchA_ats, ats_len]
  unfold touchL ats
  rw [List.map_drop]
/-- The row so far. -/
structure TcR (w wr : World) (r : List Int) (a : Int) (k : Nat) (v : Value) : Prop where
  fr : Fr [] w wr
  row : wr.ownsRow w.heap.size 3 1 v ((r.take k).filter fun x => !decide (x = a)).length (ints ((r.take k).filter fun x => !decide (x = a)))
def RTouchP (w : World) (y q : Nat) (b : Bv) (e : Ending) (w' : World) : Prop := e = .returned (.tuple #[]) ∧ RvAt w' y q b ∧ Fr [y] w w'
set_option maxRecDepth 100000 in
set_option maxHeartbeats 1000000 in
theorem rTouch_any (y q : Nat) (b : Bv) (k : Kp) (w : World) (h : RvAt w y q b) : Calls Try.prog 106 #[ptr y, .int .i64 k.at_] w (RTouchP w y q (b.touch k)) := by
  obtain ⟨A, cap, hb, hz⟩ := h.form
  obtain ⟨i0, hi0, hz0, hz1, hz2⟩ := info3 Try.info3
  have hl := h.ok.l
  have hc16 := h.ok.k
  have HC := Lib.hid (fun W (hf : Fr [] w W) => (show W.cell? ⟨y, 3, none⟩ = some (.int .i64 b.cached) ∧ W.cell? ⟨y, 4, none⟩ = some (.slice A b.cache.length cap) ∧ W.frozen? ⟨y, 4, none⟩ = false from ⟨hf.cell_some (hb.cell 3) (by simp), hf.cell_some (hb.cell 4) (by simp), (hb.fr hf (by simp)).frozen 4⟩))
  have HZ := Lib.hid (fun W (hf : Fr [] w W) => hz.fr hf (NoZ.nil _))
  have HE := Lib.hid (fun W v (hf : Fr [] w W) (hv : Zs W v (ats (touchL b.cache k b.cached))) => (show RvAt (W.setCell ⟨y, 4, none⟩ v) y q (b.touch k) ∧ Fr [y] w (W.setCell ⟨y, 4, none⟩ v) from by
    have hb1 := hb.fr hf (by simp)
    exact ⟨⟨h.ok.touch k, v, hb1.set_ 4 v, hv.fr (S := [y]) ((Fr.refl [y] W).setCell (.inl (by simp)) _) (hb1.noZ (by decide))⟩, (hf.mono (fun j hj => by cases hj)).setCell (.inl (by simp)) _⟩))
  have hNl : (ats b.cache).length = b.cache.length := ats_len _
  rw [touchL_ats] at HE
  generalize b.cache.length = N at *
  generalize ats b.cache = r at *
  generalize b.touch k = b' at *
  generalize b.cached = c at *
  generalize k.at_ = a at *
  have HN := Lib.hid hNl
  have Hst : Hid (TcR w (w.alloc (.cells #[] 3)) r a 0 (.slice (some ⟨w.heap.size, 0, none⟩) 0 0)) := Lib.hid ⟨(Fr.refl [] w).alloc _, World.ownsRow_made w #[] 0 (Nat.le_refl _) (by simp [maxLen]) (by simp)⟩
  clear h hb hz hNl
  go_enter Try.func106, Try.ntmps106
  go_wp2_with fail
  go_loopg [4, 5] N (fun gg vo vi wr => ∃ (j : Nat), j + gg = N ∧ vi = .int .i64 (j : Int) ∧ TcR w wr r a j vo)
  case atStart => exact ⟨0, by omega, rfl, Hst.out⟩
  case round =>
    obtain ⟨j, hj, rfl, hR⟩ := hrel
    have Hj := Lib.hid hj
    have Hf := Lib.hid hR.fr
    have hrow := hR.row
    obtain ⟨Ao, co, rfl⟩ := own_shape hrow
    have HO := Lib.hid hrow
    obtain ⟨c3, c4, cf⟩ := HC.out _ Hf.out
    have hfl : ((r.take j).filter fun x => !decide (x = a)).length ≤ 16 := by
      have h1 := List.length_filter_le (fun x => !decide (x = a)) (r.take j)
      have h2 := List.length_take_le' j r
      have := HN.out
      omega
    clear hj hR hrow
    by_cases hlt : j < N
    · have hlt' : (j : Int) < (N : Int) := by omega
      have hj0 : (0 : Int) ≤ (j : Int) := by omega
      have hwj : IntKind.i64.wrap ((j : Int) + 1) = (j : Int) + 1 := IntWalk.i64_in _ (by omega)
      have hx : r[j]? = some (r[j]'(by have := HN.out; omega)) := List.getElem?_eq_getElem (by have := HN.out; omega)
      generalize r[j]'(by have := HN.out; omega) = x at hx
      obtain ⟨q', o', rfl, -, hc⟩ := (HZ.out _ Hf.out).cell hx
      have Htk : Hid (r.take (j + 1) = r.take j ++ [x]) := Lib.hid (by rw [List.take_add_one, hx]; rfl)
      clear hx
      by_cases he : x = a
      · have HS : Hid (TcR w wr r a (j + 1) (.slice Ao ((r.take j).filter fun x => !decide (x = a)).length co)) := Lib.hid ⟨Hf.out, by
          have e : ((r.take (j + 1)).filter fun x => !decide (x = a)) = ((r.take j).filter fun x => !decide (x = a)) := by
            rw [Htk.out, List.filter_append]
            simp [he]
          rw [e]
          exact HO.out⟩
        go_wp2_with fail
        go_roundg (N - (j + 1))
        case measure => have := Hj.out; omega
        case rel => exact ⟨j + 1, by have := Hj.out; omega, by go_num, HS.out⟩
      · have HS := Lib.hid (fun v' w' (hf' : Fr [] w w') (ho' : w'.ownsRow w.heap.size 3 1 v' (((r.take j).filter fun x => !decide (x = a)).length + 1) (ints ((r.take j).filter fun x => !decide (x = a)) ++ [.int .i64 x])) => (show TcR w w' r a (j + 1) v' from ⟨hf', by
          have e : ((r.take (j + 1)).filter fun x => !decide (x = a)) = ((r.take j).filter fun x => !decide (x = a)) ++ [x] := by
            rw [Htk.out, List.filter_append]
            simp [he]
          rw [e, List.length_append]
          unfold ints at ho' ⊢
          rw [List.map_append]
          exact ho'⟩))
        have hm1 : ((r.take j).filter fun x => !decide (x = a)).length + 1 ≤ maxLen := by simp only [maxLen]; omega
        have hm2 : (((r.take j).filter fun x => !decide (x = a)).length + 1) * 8 ≤ 140737488355328 := by omega
        have Hsz : w.heap.size ≤ (wr.alloc (.cells #[.int .i64 x] 3)).heap.size := by have := Hf.out.size; simp; omega
        have HO2 := Lib.hid (own_fr HO.out ((Fr.refl [] wr).alloc (.cells #[.int .i64 x] 3)) (by simp))
        have Hf2 := Lib.hid (Hf.out.alloc (.cells #[.int .i64 x] 3))
        have Hns := Lib.hid (news1 ((Blk.new wr 3 #[.int .i64 x]).cell 0))
        clear HO hfl
        generalize ints ((r.take j).filter fun x => !decide (x = a)) = XS at *
        generalize ((r.take j).filter fun x => !decide (x = a)).length = M at *
        go_wp2_with (at_builtin; go_must (refine wpList_append_own _ rfl (.tmp 25) (.tmp 33) 42 rfl w.heap.size 3 i0 (.int .i64 0) 1 8 Try.underlying42 hi0 hz0 hz1 hz2 rfl (Nat.succ_pos 0) (.slice Ao M co) M XS rfl HO2.out ⟨wr.heap.size, 0, none⟩ 1 1 [.int .i64 x] rfl rfl Hns.out (by simp [Value.oneCell']) hm1 hm2 Hsz ?_; intro v3 w3 hown3 hg3 hnn3; have hf3 := Hf2.out.own HO2.out hg3; have HS3 := Lib.hid (HS.out _ _ hf3 hown3); clear hf3 hown3 hg3 hnn3))
        go_roundg (N - (j + 1))
        case measure => have := Hj.out; omega
        case rel => exact ⟨j + 1, by have := Hj.out; omega, by go_num, HS3.out⟩
    · have hlt' : ¬ (j : Int) < (N : Int) := by omega
      have htk : r.take j = r := List.take_of_length_le (by have := HN.out; omega)
      rw [htk] at HO hfl ⊢
      have hm1 : (r.filter fun x => !decide (x = a)).length + 1 ≤ maxLen := by simp only [maxLen]; omega
      have hm2 : ((r.filter fun x => !decide (x = a)).length + 1) * 8 ≤ 140737488355328 := by omega
      have Hsz : w.heap.size ≤ (wr.alloc (.cells #[.int .i64 a] 3)).heap.size := by have := Hf.out.size; simp; omega
      have HO2 := Lib.hid (own_fr HO.out ((Fr.refl [] wr).alloc (.cells #[.int .i64 a] 3)) (by simp))
      have Hf2 := Lib.hid (Hf.out.alloc (.cells #[.int .i64 a] 3))
      have Hns := Lib.hid (news1 ((Blk.new wr 3 #[.int .i64 a]).cell 0))
      have HS := Lib.hid (fun v' w' (ho' : w'.ownsRow w.heap.size 3 1 v' ((r.filter fun x => !decide (x = a)).length + 1) (ints (r.filter fun x => !decide (x = a)) ++ [.int .i64 a])) => (show ∃ g cp, v' = .slice (some ⟨g, 0, none⟩) ((r.filter fun x => !decide (x = a)).length + 1) cp ∧ Zs w' v' (touchA r a) from by
        obtain ⟨g, cp, rfl⟩ := own_succ ho'
        refine ⟨g, cp, rfl, Zs.of_own (base := w.heap.size) (n := (r.filter fun x => !decide (x = a)).length + 1) ?_ (by unfold touchA; rw [List.length_append]; rfl)⟩
        unfold touchA ints
        rw [List.map_append]
        exact ho'))
      have HL : Hid ((touchA r a).length = (r.filter fun x => !decide (x = a)).length + 1) := Lib.hid (by unfold touchA; rw [List.length_append]; rfl)
      clear HO htk hfl
      generalize ints (r.filter fun x => !decide (x = a)) = XS at *
      generalize (r.filter fun x => !decide (x = a)).length = M at *
      generalize touchA r a = TA at *
      go_wp2_with (at_builtin; go_must (refine wpList_append_own _ rfl (.tmp 35) (.tmp 37) 42 rfl w.heap.size 3 i0 (.int .i64 0) 1 8 Try.underlying42 hi0 hz0 hz1 hz2 rfl (Nat.succ_pos 0) (.slice Ao M co) M XS rfl HO2.out ⟨wr.heap.size, 0, none⟩ 1 1 [.int .i64 a] rfl rfl Hns.out (by simp [Value.oneCell']) hm1 hm2 Hsz ?_; intro v3 w3 hown3 hg3 hnn3; have hf3 := Hf2.out.own HO2.out hg3; obtain ⟨g, cp, rfl, hz3⟩ := HS.out _ _ hown3; have Hf3 := Lib.hid hf3; have Hz3 := Lib.hid hz3; clear hf3 hz3 hown3 hg3 hnn3))
      obtain ⟨d3, d4, df⟩ := HC.out _ Hf3.out
      have hmx : (M : Int) + 1 ≤ 9223372036854775807 := by simp only [maxLen] at hm1; omega
      clear hm1 hm2 Hsz HO2 Hf2 Hns HS Hst Hj Hf c3 c4 cf
      go_loopg [4] (M + 1) (fun gg v4 W => ∃ (n' j' cj : Nat) (Aj : Addr), n' + j' = M + 1 ∧ gg = n' ∧ v4 = .slice (some Aj) n' cj ∧ w3 = W ∧ Zs W v4 (TA.drop j') ∧ j' ≤ M + 1 - c)
      case atStart => exact ⟨M + 1, 0, cp, ⟨g, 0, none⟩, by omega, rfl, rfl, rfl, by rw [List.drop_zero]; exact Hz3.out, by omega⟩
      case round =>
        obtain ⟨n', j', cj, Aj, hnj, hg, rfl, rfl, hz, hj'⟩ := hrel
        have Hg := Lib.hid hg
        clear hg
        have Hnj := Lib.hid hnj
        have Hj' := Lib.hid hj'
        by_cases hcn : c < n'
        · have hcn' : (c : Int) < (n' : Int) := by omega
          have hx : TA.drop j' = TA[j']'(by have := HL.out; omega) :: TA.drop (j' + 1) := List.drop_eq_getElem_cons (by have := HL.out; omega)
          rw [hx] at hz
          obtain ⟨A', cap', hsl, hz'⟩ := hz.tail
          have Hz' := Lib.hid hz'
          clear hz hz' hx hnj hj'
          go_wp2_with fail
          go_roundg (n' - 1)
          case measure => have := Hg.out; omega
          case rel => exact ⟨n' - 1, j' + 1, cap', A', by have := Hnj.out; omega, rfl, rfl, rfl, Hz'.out, by have := Hnj.out; omega⟩
        · have hcn' : ¬ (c : Int) < (n' : Int) := by omega
          have hjj : j' = TA.length - c := by have := HL.out; omega
          rw [hjj] at hz
          obtain ⟨hE1, hE2⟩ := HE.out _ _ Hf3.out hz
          have HE1 := Lib.hid hE1
          have HE2 := Lib.hid hE2
          clear hz hjj hnj hj' hE1 hE2
          go_wp2_with fail
          go_end0
          exact ⟨rfl, HE1.out, HE2.out⟩
end Go.Proofs.Ythmnloapjdalpaa
namespace Go.Proofs.Ythmnloapjdalpaa
open Go.RowKit
set_option linter.unusedVariables false
set_option linter.unusedSimpArgs false
theorem rNewB_bad (q : Nat) (d : Dk) (f c k : Int) (w : World) (h : RD w q d) (hf : f ≤ 9223372036854775807) (hE : newBE d f c k ≠ 0) : Calls Try.prog 36 #[ptr q, .int .i64 f, .int .i64 c, .int .i64 k] w fun e w' => e = .returned (.tuple #[.pointer none, .int .i64 150]) ∧ w = w' := by
  obtain ⟨A, cap, cv, l, hb, -⟩ := h.form
  have hn2 := h.ok.n2
  have c0 := hb.cell 0
  simp at c0
  have hE' : f < 0 ∨ c < 1 ∨ (d.n : Int) < f ∨ (d.n : Int) - f < c ∨ k < 0 ∨ 16 < k := by
    unfold newBE at hE
    split at hE
    · rename_i h; exact h
    · exact absurd rfl hE
  generalize d.n = N at *
  clear h hb hE
  by_cases h1 : f < 0
  · clear hE'
    go_enter Try.func36, Try.ntmps36
    go_wp2
    go_ret2
    exact ⟨rfl, rfl⟩
  by_cases h2 : c < 1
  · clear hE'
    go_enter Try.func36, Try.ntmps36
    go_wp2
    go_ret2
    exact ⟨rfl, rfl⟩
  by_cases h3 : (N : Int) < f
  · clear hE'
    go_enter Try.func36, Try.ntmps36
    go_wp2
    go_ret2
    exact ⟨rfl, rfl⟩
  have hw4 : IntKind.i64.wrap ((N : Int) - f) = (N : Int) - f := IntWalk.i64_in _ (by omega)
  by_cases h4 : (N : Int) - f < c
  · clear hE'
    go_enter Try.func36, Try.ntmps36
    go_wp2
    go_ret2
    exact ⟨rfl, rfl⟩
  by_cases h5 : k < 0
  · clear hE'
    go_enter Try.func36, Try.ntmps36
    go_wp2
    go_ret2
    exact ⟨rfl, rfl⟩
  · have h6 : 16 < k := by omega
    clear hE'
    go_enter Try.func36, Try.ntmps36
    go_wp2
    go_ret2
    exact ⟨rfl, rfl⟩
theorem rNewB_ok (q : Nat) (d : Dk) (f c k : Int) (w : World) (h : RD w q d) (hE : newBE d f c k = 0) : Calls Try.prog 36 #[ptr q, .int .i64 f, .int .i64 c, .int .i64 k] w fun e w' => ∃ y, e = .returned (.tuple #[ptr y, .int .i64 0]) ∧ RvAt w' y q (newB f c k) ∧ (newB f c k).first + (newB f c k).count ≤ d.n ∧ Fr [] w w' ∧ w.heap.size ≤ y := by
  obtain ⟨A, cap, cv, l, hb, -⟩ := h.form
  have hn2 := h.ok.n2
  have c0 := hb.cell 0
  simp at c0
  obtain ⟨e1, e2, e3, e4, e5, e6⟩ := newBE_ok hE
  have hw4 : IntKind.i64.wrap ((d.n : Int) - f) = (d.n : Int) - f := IntWalk.i64_in _ (by omega)
  have HE : Hid (RvAt (w.alloc (.cells #[ptr q, .int .i64 f, .int .i64 c, .int .i64 k, .slice none 0 0, .int .i64 0] 77)) w.heap.size q (newB f c k) ∧ (newB f c k).first + (newB f c k).count ≤ d.n) := by
    refine Lib.hid ⟨⟨⟨by show f.toNat ≤ 4096; omega, by show c.toNat ≤ 4096; omega, by show k.toNat ≤ 16; omega, Nat.zero_le _⟩, .slice none 0 0, ?_, Zs.nil _⟩, by show f.toNat + c.toNat ≤ d.n; omega⟩
    have := Blk.new w 77 #[ptr q, .int .i64 f, .int .i64 c, .int .i64 k, .slice none 0 0, .int .i64 0]
    show Blk _ _ 77 #[ptr q, .int .i64 (f.toNat : Int), .int .i64 (c.toNat : Int), .int .i64 (k.toNat : Int), .slice none 0 0, .int .i64 ((0 : Nat) : Int)]
    rw [show ((f.toNat : Nat) : Int) = f by omega, show ((c.toNat : Nat) : Int) = c by omega, show ((k.toNat : Nat) : Int) = k by omega]
    exact this
  clear h hb hE
  generalize newB f c k = b at *
  generalize d.n = N at *
  go_enter Try.func36, Try.ntmps36
  go_wp2
  go_ret2
  exact ⟨w.heap.size, rfl, HE.out.1, HE.out.2, (Fr.refl [] w).alloc _, Nat.le_refl _⟩
theorem rCopyB_any (y q r : Nat) (b : Bv) (w : World) (h : RvAt w y q b) : Calls Try.prog 40 #[ptr y, ptr r] w fun e w' => ∃ y', e = .returned (ptr y') ∧ RvAt w' y' r b ∧ Fr [] w w' ∧ w.heap.size ≤ y' := by
  obtain ⟨A, cap, hb, hz⟩ := h.form
  have hok := h.ok
  have c0 := hb.cell 0
  have c1 := hb.cell 1
  have c2 := hb.cell 2
  have c3 := hb.cell 3
  have c4 := hb.cell 4
  have c5 := hb.cell 5
  simp at c0 c1 c2 c3 c4 c5
  have HE : Hid (RvAt (w.alloc (.cells #[ptr r, .int .i64 b.first, .int .i64 b.count, .int .i64 b.cached, .slice A b.cache.length cap, .int .i64 b.misses] 77)) w.heap.size r b ∧ Fr [] w (w.alloc (.cells #[ptr r, .int .i64 b.first, .int .i64 b.count, .int .i64 b.cached, .slice A b.cache.length cap, .int .i64 b.misses] 77))) := Lib.hid ⟨⟨hok, _, Blk.new w 77 _, hz.fr ((Fr.refl [] w).alloc _) (NoZ.nil _)⟩, (Fr.refl [] w).alloc _⟩
  clear h hb hz hok
  generalize b.cache.length = cl at *
  generalize b.first = f at *
  generalize b.count = c at *
  generalize b.cached = k at *
  generalize b.misses = ms at *
  go_enter Try.func40, Try.ntmps40
  go_wp2
  go_ret
  exact ⟨w.heap.size, rfl, HE.out.1, HE.out.2, Nat.le_refl _⟩
/-- The extent's block turns. -/
def RvT (y q : Nat) (w : World) (b : Bv) (d : Dk) (w' : World) : Prop := Rvd w' y q b d ∧ Fr [y, q] w w'
section
variable {w w' w'' : World} {y q : Nat} {b b' : Bv} {d d' : Dk}
theorem Rvd.ne (h : Rvd w y q b d) : y ≠ q := by
  obtain ⟨c1, h1⟩ := h.rv.blk
  obtain ⟨c2, h2⟩ := h.rd.blk
  exact h1.ne_type h2 (by decide)
theorem Rvd.turny (h : Rvd w y q b d) (hv : RvAt w' y q b') (hi : b'.first = b.first ∧ b'.count = b.count) (hf : Fr [y] w w') : RvT y q w b' d w' := by
  obtain ⟨c1, h1⟩ := h.rv.blk
  have hne := h.ne
  exact ⟨⟨hv, h.rd.fr hf (by simp; omega) (h1.noO (by decide)) (h1.noZ (by decide)), by rw [hi.1, hi.2]; exact h.in_⟩, hf.mono (fun k hk _ => by simp at hk; simp [hk])⟩
theorem Rvd.turnq (h : Rvd w y q b d) (ht : RTurn q w d' w') (hn : d'.n = d.n) : RvT y q w b d' w' := by
  have hne := h.ne
  obtain ⟨h1, h2⟩ := ht
  exact ⟨⟨h.rv.fr h2 (by simp; omega) h.rd.noq.2, h1, by rw [hn]; exact h.in_⟩, h2.mono (fun k hk _ => by simp at hk; simp [hk])⟩
theorem RvT.trans (h1 : RvT y q w b d w') (h2 : RvT y q w' b' d' w'') : RvT y q w b' d' w'' := ⟨h2.1, h1.2.trans h2.2⟩
theorem RvT.refl (h : Rvd w y q b d) : RvT y q w b d w := ⟨h, Fr.refl _ _⟩
theorem RvT.to (h1 : RvT y q w b d w') (hf : Fr [] w' w'') : RvT y q w b d w'' := ⟨h1.1.to hf, h1.2.step hf (fun k hk => by cases hk)⟩
theorem Rvd.cells (h : Rvd w y q b d) : w.cell? ⟨y, 0, none⟩ = some (ptr q) ∧ w.cell? ⟨y, 1, none⟩ = some (.int .i64 b.first) ∧ w.cell? ⟨y, 2, none⟩ = some (.int .i64 b.count) := by
  obtain ⟨A, cap, hb, hz⟩ := h.rv.form
  exact ⟨hb.cell 0, hb.cell 1, hb.cell 2⟩
theorem Rvd.readE (h : Rvd w y q b d) {i : Int} (ha : askedE b d i = 0) : d.readE ((b.first : Int) + i) = 0 ∧ d.readV ((b.first : Int) + i) = d.sec (b.first + i.toNat) := by
  obtain ⟨h1, h2, h3⟩ := askedE_ok ha
  have hin := h.in_
  have e : d.readE ((b.first : Int) + i) = 0 := by
    unfold Dk.readE atE
    rw [h1]
    simp only [Bool.false_eq_true, if_false]
    rw [if_neg (by omega)]
  refine ⟨e, ?_⟩
  unfold Dk.readV
  rw [if_pos e]
  congr 1
  omega
/-- A sector is read. -/
theorem Rvd.sec (h : Rvd w y q b d) {i : Int} (ha : askedE b d i = 0) : Calls Try.prog 94 #[ptr q, .int .i64 ((b.first : Int) + i)] w fun e w' => e = .returned (.tuple #[.string (d.sec (b.first + i.toNat)), .int .i64 0]) ∧ w = w' := by
  obtain ⟨h1, h2⟩ := h.readE ha
  exact (rRead_any q d _ w h.rd).mono fun e w' ⟨he, hw⟩ => ⟨by rw [he, h1, h2], hw⟩
theorem Rvd.wrapE (h : Rvd w y q b d) {i : Int} (ha : askedE b d i = 0) : IntKind.i64.wrap ((b.first : Int) + i) = (b.first : Int) + i := by
  obtain ⟨-, h2, h3⟩ := askedE_ok ha
  have := h.rv.ok.f
  have := h.rv.ok.c
  exact IntWalk.i64_in _ (by omega)
end
set_option maxRecDepth 100000 in
theorem rStamp15_any (y q : Nat) (b : Bv) (d : Dk) (i : Int) (w : World) (h : Rvd w y q b d) : Calls Try.prog 78 #[ptr y, .int .i64 i] w fun e w' => e = .returned (b.stampV d i) ∧ Fr [] w w' := by
  have HA := Lib.hid (rAsked_any y q b d i w h)
  by_cases ha : askedE b d i = 0
  · have hsz := sec_size h.rd.ok (b.first + i.toNat)
    have HR := Lib.hid (fun W (hf : Fr [] w W) => (h.to hf).sec ha)
    have hwi := h.wrapE ha
    obtain ⟨c0, c1, c2⟩ := h.cells
    have E0 : b.stampV d i = if stampedE (d.sec (b.first + i.toNat)) = false then .tuple #[.int .i64 0, .int .i64 153] else .tuple #[.int .i64 (stampOf (d.sec (b.first + i.toNat)) : Int), .int .i64 0] := by
      unfold Bv.stampV
      rw [if_neg (by omega)]
    rw [E0]
    rw [ha] at HA
    clear h ha E0
    generalize b.first = f at *
    generalize d.sec (f + i.toNat) = s at *
    have m1 := fun wx => sl_l s 120 (120 : Int) rfl wx (by omega)
    have HV := Lib.hid (fun W => value_any (s.extract 120 s.size) (by rw [ByteArray.size_extract]; omega) W)
    have E1 : stampOf s = big (s.extract 120 s.size).data.toList := rfl
    have E2 : stampedE s = decide (big (s.extract 120 s.size).data.toList ≤ 4611686018427387904) := rfl
    rw [E1, E2]
    generalize hbig : big (s.extract 120 s.size).data.toList = B at *
    generalize s.extract 120 s.size = s' at *
    clear E1 E2 hbig
    by_cases hB : B ≤ 4611686018427387904
    · have hB' : ¬ (4611686018427387904 : Int) < (B : Int) := by omega
      have hcv : IntKind.i64.wrap (B : Int) = (B : Int) := IntWalk.i64_in _ (by omega)
      rw [decide_eq_true hB, if_neg (by simp)]
      clear hB
      go_enter Try.func78, Try.ntmps78
      go_wp2_with (go_at_call 104; refine HA.out.mono ?_; rintro e w1 ⟨rfl, rfl⟩)
      go_region_held3 (fun W => W.cell? ⟨y, 0, none⟩ = some (ptr q) ∧ W.cell? ⟨y, 1, none⟩ = some (.int .i64 f)) (first | exact ⟨c0, c1⟩) (first
        | (go_at_call 94; refine (HR.out _ (Fr.refl _ _).drew).mono ?_; rintro e w3 ⟨rfl, rfl⟩))
      go_wp2_with (go_at_call 60; refine (HV.out _).mono ?_; rintro e w4 ⟨rfl, rfl⟩)
      go_ret2
      exact ⟨rfl, (Fr.refl _ _).drew⟩
    · have hB' : (4611686018427387904 : Int) < (B : Int) := by omega
      rw [decide_eq_false hB, if_pos rfl]
      clear hB
      go_enter Try.func78, Try.ntmps78
      go_wp2_with (go_at_call 104; refine HA.out.mono ?_; rintro e w1 ⟨rfl, rfl⟩)
      go_region_held3 (fun W => W.cell? ⟨y, 0, none⟩ = some (ptr q) ∧ W.cell? ⟨y, 1, none⟩ = some (.int .i64 f)) (first | exact ⟨c0, c1⟩) (first
        | (go_at_call 94; refine (HR.out _ (Fr.refl _ _).drew).mono ?_; rintro e w3 ⟨rfl, rfl⟩))
      go_wp2_with (go_at_call 60; refine (HV.out _).mono ?_; rintro e w4 ⟨rfl, rfl⟩)
      go_ret2
      exact ⟨rfl, (Fr.refl _ _).drew⟩
  · have E := Lib.hid (show b.stampV d i = .tuple #[.int .i64 0, .int .i64 (askedE b d i)] from if_pos ha)
    rw [E.out]
    generalize askedE b d i = V at *
    clear h E
    go_enter Try.func78, Try.ntmps78
    go_wp2_with (go_at_call 104; refine HA.out.mono ?_; rintro e w1 ⟨rfl, rfl⟩)
    go_ret2
    exact ⟨rfl, Fr.refl _ _⟩
end Go.Proofs.Ythmnloapjdalpaa

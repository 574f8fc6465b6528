/- The program's disk: Count, Dead, at, refused, Read, Safe. The program's disk: Read. The program's disk: New, slices.Clone of bytes. The program's disk: New. -/
import Derived.Test.YthmnloapjdalpaaAt
import Derived.IntWalk
import Derived.Lib.SliceRun
import Derived.Outline
namespace Go.Proofs.Ythmnloapjdalpaa
open Go.RowKit
set_option linter.unusedVariables false
set_option linter.unusedSimpArgs false
theorem Count_any (p g m : Nat) (d : Dk) (w : World) (h : DiskAt w p g m d) : Calls Try.prog 29 #[ptr p] w fun e w' => e = .returned (.int .i64 d.n) ∧ w = w' := by
  obtain ⟨cap, cv, ⟨c0, c1, c2, c3, c4, fz⟩, hc, hm, hz⟩ := h.cells
  have hn := h.ok.n2
  have hdv : (128 * (d.n : Int)).tdiv 128 = d.n := by rw [Int.tdiv_eq_ediv_of_nonneg (by omega)]; omega
  clear h c1 c2 c3 c4 fz hz hc hm
  go_enter Try.func29, Try.ntmps29
  go_wp2
  go_ret
  exact ⟨rfl, rfl⟩
theorem Dead_any (p g m : Nat) (d : Dk) (w : World) (h : DiskAt w p g m d) : Calls Try.prog 66 #[ptr p] w fun e w' => e = .returned (.bool d.dead) ∧ w = w' := by
  obtain ⟨cap, cv, ⟨c0, c1, c2, c3, c4, fz⟩, hc, hm, hz⟩ := h.cells
  clear h c1 c2 c3 c0 fz hz hc hm
  generalize d.dead = dd at *
  go_enter Try.func66, Try.ntmps66
  go_wp2
  go_ret
  exact ⟨rfl, rfl⟩
theorem at_any (p g m : Nat) (d : Dk) (i : Int) (w : World) (h : DiskAt w p g m d) : Calls Try.prog 71 #[ptr p, .int .i64 i] w fun e w' => e = .returned (.int .i64 (atE d i)) ∧ w = w' := by
  have hC := Lib.hid (Count_any p g m d w h)
  have e0 : (if i < 0 ∨ (d.n : Int) ≤ i then (71 : Int) else 0) = atE d i := rfl
  have E := Lib.hid e0
  clear h e0
  generalize atE d i = V at *
  generalize d.n = N at *
  by_cases h1 : i < 0
  · rw [if_pos (.inl h1)] at E
    go_enter Try.func71, Try.ntmps71
    go_wp2_with (go_at_call 29; refine hC.out.mono ?_; rintro e w' ⟨rfl, rfl⟩)
    go_ret
    exact ⟨ret_int E.out, rfl⟩
  · by_cases h2 : (N : Int) ≤ i
    · rw [if_pos (.inr h2)] at E
      go_enter Try.func71, Try.ntmps71
      go_wp2_with (go_at_call 29; refine hC.out.mono ?_; rintro e w' ⟨rfl, rfl⟩)
      go_ret
      exact ⟨ret_int E.out, rfl⟩
    · rw [if_neg (by omega)] at E
      go_enter Try.func71, Try.ntmps71
      go_wp2_with (go_at_call 29; refine hC.out.mono ?_; rintro e w' ⟨rfl, rfl⟩)
      go_ret
      exact ⟨ret_int E.out, rfl⟩
theorem read1_any (p g m a b : Nat) (d : Dk) (i : Int) (w : World) (h : DiskAt w p g m d) (ha : w.cell? ⟨a, 0, none⟩ = some (ptr p)) (hb : w.cell? ⟨b, 0, none⟩ = some (.int .i64 i)) :
    Calls Try.prog 102 #[ptr a, ptr b] w fun e w' => e = .returned (.int .i64 (atE d i)) ∧ w = w' := by
  have hA := Lib.hid (at_any p g m d i w h)
  clear h
  generalize atE d i = V at *
  go_enter Try.func102, Try.ntmps102
  go_wp2_with (go_at_call 71; refine hA.out.mono ?_; rintro e w' ⟨rfl, rfl⟩)
  go_ret
  exact ⟨rfl, rfl⟩
theorem refused_read (p g m a b : Nat) (d : Dk) (i : Int) (w : World) (h : DiskAt w p g m d) (ha : w.cell? ⟨a, 0, none⟩ = some (ptr p)) (hb : w.cell? ⟨b, 0, none⟩ = some (.int .i64 i)) :
    Calls Try.prog 69 #[ptr p, .func (.func 102) #[] #[ptr a, ptr b]] w fun e w' => e = .returned (.int .i64 (d.readE i)) ∧ w = w' := by
  have hA := Lib.hid (read1_any p g m a b d i w h ha hb)
  obtain ⟨cap, cv, ⟨c0, c1, c2, c3, c4, fz⟩, hc, hm, hz⟩ := h.cells
  have E := Lib.hid (show (if d.dead = true then (2 : Int) else atE d i) = d.readE i from rfl)
  clear h c1 c2 c3 c0 fz hz hc hm ha hb
  generalize d.readE i = V at *
  generalize atE d i = X at *
  cases hd : d.dead with
  | true =>
    rw [hd, if_pos rfl] at E
    rw [hd] at c4
    go_enter Try.func69, Try.ntmps69
    go_wp2_with (go_at_call 102; refine hA.out.mono ?_; rintro e w' ⟨rfl, rfl⟩)
    go_ret
    exact ⟨ret_int E.out, rfl⟩
  | false =>
    rw [hd, if_neg (by simp)] at E
    rw [hd] at c4
    go_enter Try.func69, Try.ntmps69
    go_wp2_with (go_at_call 102; refine hA.out.mono ?_; rintro e w' ⟨rfl, rfl⟩)
    go_ret
    exact ⟨ret_int E.out, rfl⟩
theorem Safe_any (p g m : Nat) (d : Dk) (w : World) (h : DiskAt w p g m d) : Calls Try.prog 31 #[ptr p] w fun e w' => e = .returned (.string d.safe) ∧ w = w' := by
  obtain ⟨cap, cv, ⟨c0, c1, c2, c3, c4, fz⟩, hc, hm, hz⟩ := h.cells
  have hcv := conv_wb (o := 0) (n := 128 * d.n) (cap := cap) h.sb (by omega)
  have E := Lib.hid (show bs d.s 0 (128 * d.n) = d.safe from rfl)
  clear h c1 c2 c3 c4 fz hz hc hm
  generalize d.safe = V at *
  generalize bs d.s 0 (128 * d.n) = X at *
  generalize 128 * d.n = N at *
  go_enter Try.func31, Try.ntmps31
  go_wp2
  go_ret
  exact ⟨by rw [E.out]; rfl, rfl⟩
end Go.Proofs.Ythmnloapjdalpaa
namespace Go.Proofs.Ythmnloapjdalpaa
open Go.RowKit
set_option linter.unusedVariables false
set_option linter.unusedSimpArgs false
theorem sec_none {d : Dk} {i : Nat} (h : d.u i = none) : d.sec i = bs d.s (i * 128) 128 := by unfold Dk.sec; rw [h]
theorem sec_some {d : Dk} {i : Nat} {t : ByteArray} (h : d.u i = some t) : d.sec i = t := by unfold Dk.sec; rw [h]
theorem readE_cases (d : Dk) (i : Int) : d.readE i ≠ 0 ∨ (d.readE i = 0 ∧ ∃ k : Nat, i = k ∧ k < d.n ∧ d.dead = false) := by
  by_cases h : d.readE i = 0
  · refine .inr ⟨h, ?_⟩
    unfold Dk.readE atE at h
    split at h
    · omega
    · split at h
      · omega
      · rename_i hd h1
        exact ⟨i.toNat, by omega, by omega, by simpa using hd⟩
  · exact .inl h
theorem readE_int (d : Dk) (i : Int) : d.readE i = 2 ∨ d.readE i = 71 ∨ d.readE i = 0 := by
  unfold Dk.readE atE
  split
  · exact .inl rfl
  · split
    · exact .inr (.inl rfl)
    · exact .inr (.inr rfl)
def ReadP (w : World) (d : Dk) (i : Int) (e : Ending) (w' : World) : Prop := e = .returned (.tuple #[.string (d.readV i), .int .i64 (d.readE i)]) ∧ Fr [] w w'
set_option maxHeartbeats 1000000 in
theorem Read_any (p g m : Nat) (d : Dk) (i : Int) (w : World) (h : DiskAt w p g m d) : Calls Try.prog 65 #[ptr p, .int .i64 i] w (ReadP w d i) := by
  have hf : Fr [] w ((w.alloc (.cells #[ptr p] 36)).alloc (.cells #[.int .i64 i] 3)) := ((Fr.refl [] w).alloc _).alloc _
  have hf1 : Fr [] (w.alloc (.cells #[ptr p] 36)) ((w.alloc (.cells #[ptr p] 36)).alloc (.cells #[.int .i64 i] 3)) := (Fr.refl [] _).alloc _
  have ca : ((w.alloc (.cells #[ptr p] 36)).alloc (.cells #[.int .i64 i] 3)).cell? ⟨w.heap.size, 0, none⟩ = some (ptr p) := ((Blk.new w 36 #[ptr p]).alloc _).cell 0
  have cb : ((w.alloc (.cells #[ptr p] 36)).alloc (.cells #[.int .i64 i] 3)).cell? ⟨w.heap.size + 1, 0, none⟩ = some (.int .i64 i) := by
    have := (Blk.new (w.alloc (.cells #[ptr p] 36)) 3 #[.int .i64 i]).cell 0
    rw [World.size_alloc] at this
    exact this
  have h1 := h.to hf
  have HR := Lib.hid (refused_read p g m w.heap.size (w.heap.size + 1) d i _ h1 ca cb)
  obtain ⟨cap, cv, ⟨c0, c1, c2, c3, c4, fz⟩, hc, hm, hz⟩ := h1.cells
  have HF := Lib.hid hf
  have hok := h.ok
  have hlt := h.ltp
  obtain ⟨e, he⟩ : ∃ e, d.readE i = e := ⟨_, rfl⟩
  rcases readE_cases d i with h0 | ⟨h0, k, hk, hkn, hd⟩
  · have E : Hid (d.readV i = ⟨#[]⟩) := Lib.hid (by unfold Dk.readV; rw [if_neg h0])
    rw [he] at h0 HR
    clear h h1 c1 c2 c3 c0 c4 fz hz hc hm hok hf hf1
    go_enter Try.func65, Try.ntmps65
    go_wp2_with (go_at_call 69; refine HR.out.mono ?_; rintro e w' ⟨rfl, rfl⟩)
    go_ret2
    unfold ReadP
    rw [E.out, he]
    exact ⟨rfl, HF.out⟩
  · subst hk
    have hn := hok.n2
    have E : Hid (d.readV (k : Int) = d.sec k) := Lib.hid (by unfold Dk.readV; rw [if_pos h0]; rfl)
    have E0 := Lib.hid h0
    rw [h0] at HR
    have b1 : (k : Int) * 128 < 9223372036854775807 := by omega
    cases hu : d.u k with
    | some t =>
      have hl := fun j => (h1.um.drewN j).look_some 108 Try.underlying108 hu
      rw [sec_some hu] at E
      clear h h1 c2 c3 c0 c4 fz hz hc hm hok hf hf1 he hn h0 hu
      go_enter Try.func65, Try.ntmps65
      go_wp2_with (go_at_call 69; refine HR.out.mono ?_; rintro e w' ⟨rfl, rfl⟩)
      go_quiet (fail)
      go_wp2
      go_ret2
      unfold ReadP
      rw [E.out, E0.out]
      exact ⟨rfl, HF.out.drewN _⟩
    | none =>
      have hl := fun j => (h1.um.drewN j).look_none 108 Try.underlying108 hkn hu
      rw [sec_none hu] at E
      have hcv := fun j => conv_wb (o := k * 128) (n := 128) (cap := cap - k * 128) (h1.sb.fr ((Fr.refl [] ((w.alloc (.cells #[ptr p] 36)).alloc (.cells #[.int .i64 (k : Int)] 3))).drewN j) (by simp)) (by omega)
      clear h h1 c2 c3 c4 fz hz hm hok hf hf1 he h0 hu
      generalize bs d.s (k * 128) 128 = X at *
      generalize d.n = N at *
      go_enter Try.func65, Try.ntmps65
      go_wp2_with (go_at_call 69; refine HR.out.mono ?_; rintro e w' ⟨rfl, rfl⟩)
      go_quiet (fail)
      go_wp2_with fail
      have m1 : IntKind.i64.wrap ((k : Int) * 128) = (k : Int) * 128 := IntWalk.i64_in _ (by omega)
      have m2 : IntKind.i64.wrap ((k : Int) + 1) = (k : Int) + 1 := IntWalk.i64_in _ (by omega)
      have m3 : IntKind.i64.wrap (((k : Int) + 1) * 128) = ((k : Int) + 1) * 128 := IntWalk.i64_in _ (by omega)
      have m4 := fun wx => slice_lh wx g 0 (128 * N) cap (k * 128) (k * 128 + 128) ((k : Int) * 128) (((k : Int) + 1) * 128) (by omega) (by omega) (by omega) (by omega) (by omega)
      rw [Nat.zero_add, Nat.add_sub_cancel_left] at m4
      go_quiet (fail)
      go_wp2
      go_ret2
      unfold ReadP
      rw [E.out, E0.out]
      exact ⟨rfl, (HF.out.drewN _).drewN _⟩
end Go.Proofs.Ythmnloapjdalpaa
namespace Go.Proofs.Ythmnloapjdalpaa
open Go.RowKit
set_option linter.unusedVariables false
set_option linter.unusedSimpArgs false
theorem own_some {w : World} {base : Nat} {e : TypeId} {size : Nat} {v : Value} {n : Nat} {xs : List Value} (h : w.ownsRow base e size v n xs) (hv : v ≠ .slice none 0 0) :
    ∃ g cap cs, v = .slice (some ⟨g, 0, none⟩) n cap ∧ base ≤ g ∧ n ≤ cap ∧ cap ≤ maxLen ∧ Blk w g e cs ∧ ∀ (j : Nat) (u : Value), xs[j]? = some u → cs[j]? = some u := by
  rcases h.2 with ⟨h1, h2⟩ | ⟨g, cap, cur, rfl, hb, hh, h3, h4, h5, h6⟩
  · exact absurd h1 hv
  · refine ⟨g, cap, cur, rfl, hb, h3, h4, hh, fun j u hu => ?_⟩
    rw [← h6, List.getElem?_take] at hu
    split at hu
    · simpa using hu
    · cases hu
/-- Bytes as cells. -/
def bcs (l : Nat → UInt8) (o n : Nat) : List Value := (List.range n).map fun i => .int .u8 ((l (o + i)).toNat : Int)
theorem bcs_len (l : Nat → UInt8) (o n : Nat) : (bcs l o n).length = n := by simp [bcs]
theorem bcs_at (l : Nat → UInt8) (o n j : Nat) (hj : j < n) : (bcs l o n)[j]? = some (.int .u8 ((l (o + j)).toNat : Int)) := by simp [bcs, hj]
theorem bcs_one (l : Nat → UInt8) (o n : Nat) : ∀ u ∈ bcs l o n, u.oneCell' = true := by
  intro u hu
  obtain ⟨i, -, rfl⟩ := List.mem_map.1 hu
  rfl
theorem Wb.news {w : World} {g N o n : Nat} {l : Nat → UInt8} (h : Wb w g N l) (hn : o + n ≤ N) : ∀ (j : Nat) (u : Value), (bcs l o n)[j]? = some u → w.cell? ((⟨g, o, none⟩ : Addr).add j) = some u := by
  intro j u hu
  have hj : j < n := by
    have := (List.getElem?_eq_some_iff.1 hu).1
    rwa [bcs_len] at this
  rw [bcs_at _ _ _ _ hj] at hu
  rw [addr_add, h.cell (by omega), hu]
theorem Wb.of_row {w : World} {g n : Nat} {l : Nat → UInt8} {cs : Array Value} (h : Blk w g 5 cs) (o : Nat) (hc : ∀ (j : Nat) (u : Value), (bcs l o n)[j]? = some u → cs[j]? = some u) : Wb w g n (fun i => l (o + i)) := by
  have h1 : ∀ i, i < n → cs[i]? = some (.int .u8 ((l (o + i)).toNat : Int)) := fun i hi => hc i _ (bcs_at _ _ _ _ hi)
  refine Wb.of_blk h ?_ h1
  cases n with
  | zero => omega
  | succ n =>
    have := (Array.getElem?_eq_some_iff.1 (h1 n (by omega))).1
    omega
theorem Try.info5 : (Try.prog.info? 5).map (fun i => (i.zero, i.size, i.bytes)) = some (some (.int .u8 0), 1, 1) := by kernel_rfl
def CloneB (w : World) (n : Nat) (l : Nat → UInt8) (e : Ending) (w' : World) : Prop := ∃ g cap, e = .returned (.slice (some ⟨g, 0, none⟩) n cap) ∧ Wb w' g n l ∧ Fr [] w w' ∧ w.heap.size ≤ g ∧ n ≤ cap ∧ cap ≤ maxLen
set_option maxHeartbeats 400000 in
theorem cloneB_any (g cap n : Nat) (l : Nat → UInt8) (w : World) (h : Wb w g n l) (hn : n ≤ 524288) : Calls Try.prog 74 #[.slice (some ⟨g, 0, none⟩) n cap] w (CloneB w n l) := by
  obtain ⟨i0, hi0, hz0, hz1, hz2⟩ := info3 Try.info5
  have hnil := fun w => Lib.run_eql_slice_nil (P := Try.prog) w 30 5 (some ⟨g, 0, none⟩) n cap 0 0 Try.underlying30
  have Hf0 := Lib.hid ((Fr.refl [] w).alloc (.cells #[] 5))
  have hm0 : (w.alloc (.cells #[] 5)).ownsRow w.heap.size 5 1 (.slice (some ⟨w.heap.size, 0, none⟩) 0 0) 0 [] := World.ownsRow_made w #[] 0 (Nat.le_refl _) (by simp [maxLen]) (by simp)
  have Hm0 := Lib.hid hm0
  have Hcell := Lib.hid ((h.fr Hf0.out (by simp)).news (o := 0) (n := n) (by omega))
  clear hm0 h
  go_enter Try.func74, Try.ntmps74
  go_wp2_with (at_builtin; go_must (refine wpList_append_own _ rfl (.tmp 5) (.tmp 6) 30 rfl w.heap.size 5 i0 (.int .u8 0) 1 1 Try.underlying30 hi0 hz0 hz1 hz2 rfl (by decide) _ _ _ rfl Hm0.out _ n cap (bcs l 0 n) rfl (by rw [bcs_len]; omega) Hcell.out (bcs_one _ _ _) (by simp only [maxLen]; omega) (by omega) (by simp) ?_; intro v1 w1 hown1 hg1 hnn; have hf1 := Hf0.out.own Hm0.out hg1))
  go_ret
  have hv : v1 ≠ .slice none 0 0 := fun h => by have := (hnn.1 h).1; cases this
  obtain ⟨g1, cap1, cs1, rfl, h1, h2, h2', h3, h4⟩ := own_some hown1 hv
  have hw := Wb.of_row (l := l) (n := n) h3 0 (by simpa using h4)
  refine ⟨g1, cap1, ?_, hw.ext (fun i _ => by rw [Nat.zero_add]), hf1, h1, by simpa using h2, h2'⟩
  simp
end Go.Proofs.Ythmnloapjdalpaa
namespace Go.Proofs.Ythmnloapjdalpaa
open Go.RowKit
set_option linter.unusedVariables false
set_option linter.unusedSimpArgs false
theorem empty_of {t : ByteArray} (h : t.size = 0) : t = ⟨#[]⟩ := by
  refine ba_ext' (by rw [h]; rfl) fun i hi => ?_
  omega
theorem tl_ne {t : ByteArray} (h : ¬ t.size = 0) : ¬ t.toList = [] := by
  rw [ByteArray.toList_eq]
  intro e
  exact h (by have : t.size = t.data.toList.length := rfl; rw [this, e]; rfl)
theorem tl_em {t : ByteArray} (h : ¬ t.size = 0) : t.toList.isEmpty = false := by
  cases h1 : t.toList with
  | nil => exact absurd h1 (tl_ne h)
  | cons _ _ => rfl
theorem newE_bad {t : ByteArray} (h : newE t ≠ 0) : newE t = 70 ∧ (t.size = 0 ∨ t.size % 128 ≠ 0 ∨ 524288 < t.size) := by
  unfold newE at h ⊢
  split at h
  · rename_i h1
    rw [if_pos h1]
    exact ⟨rfl, h1⟩
  · exact absurd rfl h
theorem newE_ok {t : ByteArray} (h : newE t = 0) : ¬ t.size = 0 ∧ t.size % 128 = 0 ∧ t.size ≤ 524288 := by
  unfold newE at h
  split at h
  · cases h
  · omega
set_option maxRecDepth 100000 in
theorem New_bad (t : ByteArray) (w : World) (hs : t.size ≤ maxLen) (h : newE t ≠ 0) : Calls Try.prog 22 #[.string t] w fun e w' => e = .returned (.tuple #[.pointer none, .int .i64 70]) ∧ w = w' := by
  obtain ⟨-, h1⟩ := newE_bad h
  clear h
  simp only [maxLen] at hs
  by_cases h0 : t.size = 0
  · obtain rfl := empty_of h0
    clear h1 h0 hs
    go_enter Try.func22, Try.ntmps22
    go_wp2
    go_ret2
    exact ⟨rfl, rfl⟩
  · have hnl := tl_ne h0
    have hne := tl_em h0
    by_cases h2 : t.size % 128 = 0
    · have h3 : (524288 : Int) < (t.size : Int) := by omega
      have h4 : (t.size : Int) % 128 = 0 := by omega
      clear h1 h2
      go_enter Try.func22, Try.ntmps22
      go_wp2
      go_ret2
      exact ⟨rfl, rfl⟩
    · have h4 : ¬ (t.size : Int) % 128 = 0 := by omega
      clear h1 h2
      go_enter Try.func22, Try.ntmps22
      go_wp2
      go_ret2
      exact ⟨rfl, rfl⟩
def NewP (w : World) (t : ByteArray) (e : Ending) (w' : World) : Prop := ∃ p g m, e = .returned (.tuple #[ptr p, .int .i64 0]) ∧ DiskAt w' p g m (newD t) ∧ Fr [] w w' ∧ w.heap.size ≤ p ∧ w.heap.size ≤ g ∧ w.heap.size ≤ m
set_option maxRecDepth 100000 in
theorem New_ok (t : ByteArray) (w : World) (h : newE t = 0) : Calls Try.prog 22 #[.string t] w (NewP w t) := by
  obtain ⟨h0, h2, h5⟩ := newE_ok h
  have hok := newD_ok h
  have hsz := newD_size h
  have hcv := run_bytes_of_string (P := Try.prog) w 9 30 5 t Try.underlying9 Try.underlying30 Try.underlying5
  obtain ⟨C, hC⟩ : ∃ C, grownCap w t.size 0 5 = C := ⟨_, rfl⟩
  have hC1 : t.size ≤ C := by rw [← hC]; exact grownCap_ge ..
  have hC2 : C ≤ maxLen := by rw [← hC]; exact grownCap_le_maxLen w _ _ _ (by simp only [maxLen]; omega)
  rw [hC] at hcv
  have hwb := Wb.made w t C (at8 t) (fun i hi => at8_get hi)
  have hnl := tl_ne h0
  have hne := tl_em h0
  have h4 : (t.size : Int) % 128 = 0 := by omega
  have h3 : ¬ (524288 : Int) < (t.size : Int) := by omega
  have Hok := Lib.hid hok
  have Hsz := Lib.hid hsz
  have HC := Lib.hid (show t.size ≤ C ∧ C ≤ maxLen from ⟨hC1, hC2⟩)
  generalize bytesRow t C = R at *
  have HW := Lib.hid hwb
  have hmm := @run_makeMap Try.prog
  clear hwb hC hok hsz hC1 hC2 h0 h2 h5 h
  go_enter Try.func22, Try.ntmps22
  go_wp2
  go_ret2
  have hf : Fr [] w (((w.alloc (Obj.cells R 5 (R.size, R.size + 1))).alloc (Obj.map #[] 0)).alloc
        (Obj.cells #[Value.slice (some { block := w.heap.size, off := 0 }) t.size C, Value.map (some (w.heap.size + 1)), Value.int IntKind.i64 0, Value.slice none 0 0, Value.bool false] 110)).drew := ((((Fr.refl [] w).alloc _).alloc _).alloc _).drew
  have hu := UMap.made (w := w.alloc (Obj.cells R 5 (R.size, R.size + 1))) (n := (newD t).n) Hok.out.n2
  have hb := Blk.new ((w.alloc (Obj.cells R 5 (R.size, R.size + 1))).alloc (Obj.map #[] 0)) 110 #[Value.slice (some { block := w.heap.size, off := 0 }) t.size C, Value.map (some (w.heap.size + 1)), Value.int IntKind.i64 0, Value.slice none 0 0, Value.bool false]
  rw [World.size_alloc] at hu
  rw [World.size_alloc, World.size_alloc] at hb
  refine ⟨w.heap.size + 1 + 1, w.heap.size, w.heap.size + 1, rfl, ⟨Hok.out, ⟨C, _, ?_, ?_, HC.out.2, Zs.nil _⟩, ?_, ?_⟩, hf, by omega, by omega, by omega⟩
  · rw [← Hsz.out]
    exact hb
  · have := HC.out.1
    have := Hsz.out
    omega
  · rw [← Hsz.out]
    exact HW.out.fr (S := []) ((((Fr.refl [] _).alloc _).alloc _).drew) (by simp)
  · exact hu.fr (S := []) (((Fr.refl [] _).alloc _).drew) (by simp)
end Go.Proofs.Ythmnloapjdalpaa

/- The cache: touch. An extent's Read. An extent's Stamp, Write, Barrier. -/
import Derived.Test.YthmnloapjdalpaaD3
namespace Go.Proofs.Ythmnloapjdalpaa
open Go.RowKit
set_option linter.unusedVariables false
set_option linter.unusedSimpArgs false
def touchR (l : List Kp) (k : Kp) : List Kp := (l.filter fun o => !decide (o.at_ = k.at_)) ++ [k]
def touchL (l : List Kp) (k : Kp) (c : Nat) : List Kp := (touchR l k).drop ((touchR l k).length - c)
def Bv.touch (b : Bv) (k : Kp) : Bv := { b with cache := touchL b.cache k b.cached }
theorem touchR_len (l : List Kp) (k : Kp) : (touchR l k).length ≤ l.length + 1 := by
  unfold touchR
  rw [List.length_append]
  have := List.length_filter_le (fun o => !decide (o.at_ = k.at_)) l
  simp
  omega
theorem Bv.Ok.touch {b : Bv} (h : b.Ok) (k : Kp) : (b.touch k).Ok := ⟨h.f, h.c, h.k, by
  show (touchL b.cache k b.cached).length ≤ 16
  unfold touchL
  rw [List.length_drop]
  have := h.k
  omega⟩
theorem enter101 (args : Array Value) (W : World) : (callFunc 101 args).run Try.prog W = .ok (.enter 101 args) W := by kernel_rfl
theorem enter63 (args : Array Value) (W : World) : (callFunc 63 args).run Try.prog W = .ok (.enter 63 args) W := by kernel_rfl
/-- A slice's end. -/
theorem KS.drop {w : World} {A : Option Addr} {n cap : Nat} {l : List Kp} (h : KS w (.slice A n cap) l) {lo : Nat} (hlo : lo ≤ n) (hA : A ≠ none) : ∃ A', (∀ wx, (Instr.slice 111 (.slice A n cap) (some (.int .i64 (lo : Int))) none none).run Try.prog wx = .ok (.slice A' (n - lo) (cap - lo)) wx) ∧ KS w (.slice A' (n - lo) (cap - lo)) (l.drop lo) := by
  obtain ⟨A0, cap0, e1, h2, h3, h4, h5⟩ := h
  injection e1 with e1 en ec
  subst e1 ec
  have hl : (l.drop lo).length = n - lo := by rw [List.length_drop, en]
  obtain ⟨ad, rfl⟩ : ∃ ad, A = some ad := by
    cases A with
    | none => exact absurd rfl hA
    | some ad => exact ⟨ad, rfl⟩
  refine ⟨if cap = lo then some ad else (some ad).map (·.add (lo * 3)), fun wx => ?_, ?_⟩
  · rw [run_slice_l (P := Try.prog) wx 111 (some ad) n cap (by rw [elem111]; exact Try.underlying111) .i64 lo (by omega) (by omega), elem111, sizeOf117]
    simp [Result.andThen, sliced]
  · refine ⟨_, cap - lo, by rw [hl], by rw [hl]; omega, by omega, fun h => ?_, ?_⟩
    · split at h <;> cases h
    · by_cases hle : n = lo
      · left
        exact List.eq_nil_of_length_eq_zero (by omega)
      · right
        rcases h5 with h5 | ⟨q, o, cs, mk, e, h6, h7⟩
        · rw [h5] at en
          simp at en
          omega
        · injection e with e
          subst e
          refine ⟨q, o + lo * 3, cs, mk, ?_, h6, fun j k hj => ?_⟩
          · rw [if_neg (by omega)]
            simp only [Option.map_some]
            rw [addr_add]
          · rw [List.getElem?_drop] at hj
            obtain ⟨a, b, c⟩ := h7 _ _ hj
            rw [show o + lo * 3 + j * 3 = o + (lo + j) * 3 by omega]
            exact ⟨a, b, c⟩
theorem newsK (w : World) (k : Kp) : ∀ (j : Nat) (u : Value), (kcs [k])[j]? = some u → (w.alloc (.cells #[.int .i64 k.at_, .string k.data, .int .i64 k.stamp] 117)).cell? ((⟨w.heap.size, 0, none⟩ : Addr).add j) = some u := by
  intro j u hu
  have hb := Blk.new w 117 #[.int .i64 k.at_, .string k.data, .int .i64 k.stamp]
  rw [addr_add, Nat.zero_add, hb.cell]
  simpa [kcs, kc] using hu
theorem own_none {w : World} {B n cap : Nat} {xs : List Value} (h : w.ownsRow B 117 3 (.slice none n cap) n xs) : (.slice none n cap : Value) = .slice none 0 0 := by
  rcases h.2 with ⟨h1, h2⟩ | ⟨g, cap', cur, e, -⟩
  · exact h1
  · injection e with e
    cases e
def TouchP (w : World) (v p : Nat) (b : Bv) (e : Ending) (w' : World) : Prop := e = .returned (.tuple #[]) ∧ DevAt w' v p b ∧ Fr [v] w w'
set_option maxRecDepth 100000 in
set_option maxHeartbeats 1000000 in
theorem touch_any (v p : Nat) (b : Bv) (k : Kp) (w : World) (h : DevAt w v p b) : Calls Try.prog 64 #[ptr v, kv k] w (TouchP w v p (b.touch k)) := by
  have hfb : Fr [] w (w.alloc (.cells #[.int .i64 k.at_, .string k.data, .int .i64 k.stamp] 117)) := (Fr.refl [] w).alloc _
  have hbb := Blk.new w 117 #[.int .i64 k.at_, .string k.data, .int .i64 k.stamp]
  obtain ⟨cv, ⟨c0, c1, c2, c3, c4, c5, fz⟩, hks⟩ := (h.to hfb).cells
  have hl16 := h.ok.l
  have hk16 := h.ok.k
  obtain ⟨A0, n0, cp0, rfl⟩ : ∃ A n cp, cv = .slice A n cp := by
    obtain ⟨A, cp, e, -⟩ := hks
    exact ⟨A, _, cp, e⟩
  have HCl := Lib.hid (cloneK_any A0 n0 cp0 b.cache _ hks (by omega))
  have H := Lib.hid h
  have Hfb := Lib.hid hfb
  have HB := Lib.hid (fun W (hf : Fr [] (w.alloc (.cells #[.int .i64 k.at_, .string k.data, .int .i64 k.stamp] 117)) W) => (show W.cell? ⟨w.heap.size, 0, none⟩ = some (.int .i64 k.at_) ∧ W.cell? ⟨w.heap.size, 1, none⟩ = some (.string k.data) ∧ W.cell? ⟨w.heap.size, 2, none⟩ = some (.int .i64 k.stamp) from ⟨hf.cell_some (hbb.cell 0) (by simp), hf.cell_some (hbb.cell 1) (by simp), hf.cell_some (hbb.cell 2) (by simp)⟩))
  have HV := Lib.hid (fun W (hf : Fr [] (w.alloc (.cells #[.int .i64 k.at_, .string k.data, .int .i64 k.stamp] 117)) W) => (show W.cell? ⟨v, 3, none⟩ = some (.int .i64 b.cached) ∧ W.cell? ⟨v, 4, none⟩ = some (.slice A0 n0 cp0) from ⟨hf.cell_some c3 (by simp), hf.cell_some c4 (by simp)⟩))
  have HDl := Lib.hid (fun (W : World) (A : Option Addr) (n cp : Nat) (hf : Fr [] (w.alloc (.cells #[.int .i64 k.at_, .string k.data, .int .i64 k.stamp] 117)) W) (ho : KOwn (w.alloc (.cells #[.int .i64 k.at_, .string k.data, .int .i64 k.stamp] 117)).heap.size W (.slice A n cp) b.cache) =>
    delF_any _ A n cp b.cache 101 #[ptr w.heap.size] (fun o => decide (o.at_ = k.at_)) W hf ho (by omega) enter101 (fun o W' hf' => touch1_any k o _ W' (hf'.cell_some (hbb.cell 0) (by simp))))
  clear h hfb hbb hks c0 c1 c2 c5 fz c3
  go_enter Try.func64, Try.ntmps64
  generalize hWB : w.alloc (.cells #[.int .i64 k.at_, .string k.data, .int .i64 k.stamp] 117) = WB at *
  obtain ⟨i0, hi0, hz0, hz1, hz2⟩ := info3 Try.info117
  have HFZ := Lib.hid (fun W (hf : Fr [] w W) => (H.out.to hf).cells.choose_spec.1.fz)
  go_wp2_with (first
    | (go_at_call 76; refine HCl.out.mono ?_; rintro e w1 ⟨A1, cp1, rfl, ho1, hf1⟩)
    | (go_at_call 100; refine (HDl.out _ _ _ _ hf1 ho1).mono ?_; rintro e w2 ⟨A2, m, cp2, rfl, hm, ho2, hf2⟩; clear ho1 hf1; obtain ⟨k0, k1, k2⟩ := HB.out _ hf2; have Hm := Lib.hid hm; have Hf2 := Lib.hid hf2
       have Ho2 := Lib.hid (ho2.kept ((Fr.refl [] w2).alloc (.cells #[.int .i64 k.at_, .string k.data, .int .i64 k.stamp] 117)))
       have Hf2a := Lib.hid (hf2.alloc (.cells #[.int .i64 k.at_, .string k.data, .int .i64 k.stamp] 117)); have hsz2 := Hf2a.out.size
       have hm16 : m ≤ 16 := (by rw [hm]; exact Nat.le_trans (List.length_filter_le _ _) hl16)
       unfold KOwn at Ho2
       rw [← hm] at Ho2
       clear hm ho2 hf2)
    | (at_builtin; go_must (refine wpList_append_own _ rfl (.tmp 12) (.tmp 14) 111 rfl WB.heap.size 117 i0 (.agg #[.int .i64 0, .string ⟨#[]⟩, .int .i64 0]) 3 32 Try.underlying111 hi0 hz0 hz1 hz2 rfl (by decide) _ m _ rfl Ho2.out ⟨w2.heap.size, 0, none⟩ 1 1 (kcs [k]) rfl rfl (newsK w2 k) (kcs_one _) (by simp only [maxLen]; omega) (by omega) hsz2 ?_; intro v3 w3 hown3 hg3 hnn3; have hf3 := Hf2a.out.own Ho2.out hg3; rw [← kcs_app] at hown3; have ho3 := (show KOwn WB.heap.size w3 v3 (touchR b.cache k) from (by unfold KOwn; rw [show (touchR b.cache k).length = m + 1 from (by unfold touchR; rw [List.length_append, ← Hm.out]; rfl)]; exact hown3)); have hne3 : v3 ≠ .slice none 0 0 := (fun h => by have := hnn3.1 h; simp [kcs, kc] at this); obtain ⟨A3, cp3, rfl⟩ := own_shape hown3; obtain ⟨lo, hloE⟩ : ∃ lo, m + 1 - b.cached = lo := ⟨_, rfl⟩; obtain ⟨A4, hsl, hk4⟩ := ho3.ks.drop (lo := lo) (by omega) (fun h => by subst h; exact hne3 (by have := own_none hown3; rw [this])); obtain ⟨vc3, vc4⟩ := HV.out _ hf3; have fz := HFZ.out _ (Hfb.out.trans hf3); have hwm : IntKind.i64.wrap ((m : Int) + 1 - (b.cached : Int)) = (m : Int) + 1 - (b.cached : Int) := (IntWalk.i64_in _ (by omega)); have hlo : max (0 : Int) ((m : Int) + 1 - (b.cached : Int)) = (lo : Int) := (by omega); have HloE := Lib.hid hloE; clear hloE; have Hf3 := Lib.hid hf3; have Hk4 := Lib.hid hk4; clear hown3 hg3 hnn3 hf3 ho3 hne3 hk4)))
  go_end0
  have hbk := H.out.hd
  obtain ⟨cv0, hb0, hk0⟩ := hbk
  have hb3 := hb0.fr (Hfb.out.trans Hf3.out) (by simp)
  refine ⟨rfl, ⟨H.out.ok.touch k, _, hb3.set_ 4 _, ?_⟩, ((Hfb.out.trans Hf3.out).mono (fun j hj => by cases hj)).setCell (.inl (by simp)) _⟩
  have e1 : (b.touch k).cache = (touchR b.cache k).drop lo := by
    show touchL b.cache k b.cached = _
    unfold touchL
    have : (touchR b.cache k).length = m + 1 := by unfold touchR; rw [List.length_append, ← Hm.out]; rfl
    rw [this, HloE.out]
  rw [e1]
  exact Hk4.out.fr (S := [v]) ((Fr.refl _ _).setCell (.inl (by simp)) _) (hb3.noK (by decide))
end Go.Proofs.Ythmnloapjdalpaa
namespace Go.Proofs.Ythmnloapjdalpaa
open Go.RowKit
set_option linter.unusedVariables false
set_option linter.unusedSimpArgs false
def Bv.find (b : Bv) (i : Int) : Option Kp := b.cache.find? fun o => decide (o.at_ = i)
def Bv.miss (b : Bv) : Bv := { b with misses := b.misses + 1 }
def Bv.readB (b : Bv) (d : Dk) (i : Int) : Bv :=
  if askedE b d i ≠ 0 then b else
  match b.find i with
  | some k => b.touch k
  | none => if parseE (d.sec (b.first + i.toNat)) = 0 then b.miss.touch ⟨i, parseD (d.sec (b.first + i.toNat)), parseN (d.sec (b.first + i.toNat))⟩ else b.miss
def Bv.readV (b : Bv) (d : Dk) (i : Int) : Value :=
  if askedE b d i ≠ 0 then .tuple #[.string ⟨#[]⟩, .int .i64 0, .int .i64 (askedE b d i)] else
  match b.find i with
  | some k => .tuple #[.string k.data, .int .i64 k.stamp, .int .i64 0]
  | none => ParseR (d.sec (b.first + i.toNat))
theorem find_some {b : Bv} {i : Int} {j : Nat} {k : Kp} (h1 : b.cache[j]? = some k) (h2 : (fun o : Kp => decide (o.at_ = i)) k = true) (h3 : ∀ j' k', j' < j → b.cache[j']? = some k' → (fun o : Kp => decide (o.at_ = i)) k' = false) : b.find i = some k := by
  unfold Bv.find
  rw [List.find?_eq_some_iff_getElem]
  refine ⟨h2, j, (List.getElem?_eq_some_iff.1 h1).1, (List.getElem?_eq_some_iff.1 h1).2, fun j' hj' => ?_⟩
  have hl : j' < b.cache.length := Nat.lt_trans hj' (List.getElem?_eq_some_iff.1 h1).1
  have := h3 j' b.cache[j'] hj' (List.getElem?_eq_getElem hl)
  simpa using this
theorem find_none {b : Bv} {i : Int} (h : ∀ k, k ∈ b.cache → (fun o : Kp => decide (o.at_ = i)) k = false) : b.find i = none := by
  unfold Bv.find
  rw [List.find?_eq_none]
  intro k hk
  have := h k hk
  simpa using this
theorem askedE_ok {b : Bv} {d : Dk} {i : Int} (h : askedE b d i = 0) : d.dead = false ∧ 0 ≤ i ∧ i < b.count := by
  unfold askedE at h
  split at h
  · cases h
  · split at h
    · cases h
    · rename_i h1 h2
      exact ⟨by simpa using h1, by omega, by omega⟩
theorem Dv.readE {w0 w : World} {v p : Nat} {b : Bv} {d : Dk} (h : Dv w0 w v p b d) {i : Int} (ha : askedE b d i = 0) : d.readE ((b.first : Int) + i) = 0 ∧ d.readV ((b.first : Int) + i) = d.sec (b.first + i.toNat) := by
  obtain ⟨h1, h2, h3⟩ := askedE_ok ha
  have hin := h.in_
  have e : d.readE ((b.first : Int) + i) = 0 := by
    unfold Dk.readE atE
    rw [h1]
    simp only [Bool.false_eq_true, if_false]
    rw [if_neg (by omega)]
  refine ⟨e, ?_⟩
  unfold Dk.readV
  rw [if_pos e]
  congr 1
  omega
theorem sec_size {d : Dk} (h : d.Ok) (i : Nat) : (d.sec i).size = 128 := by
  unfold Dk.sec
  cases hu : d.u i with
  | none => exact bs_size _ _ _
  | some t => exact (h.un i t hu).2
theorem Bv.Ok.miss {b : Bv} (h : b.Ok) : b.miss.Ok := ⟨h.f, h.c, h.k, h.l⟩
theorem DevAt.missed {w : World} {v p : Nat} {b : Bv} (h : DevAt w v p b) : DevAt (w.setCell ⟨v, 5, none⟩ (.int .i64 ((b.misses : Int) + 1))) v p b.miss := by
  obtain ⟨ok, cv, hb, hk⟩ := h
  have e : ((b.miss.misses : Nat) : Int) = (b.misses : Int) + 1 := by show ((b.misses + 1 : Nat) : Int) = _; omega
  refine ⟨ok.miss, cv, ?_, hk.fr (S := [v]) ((Fr.refl _ _).setCell (.inl (by simp)) _) (hb.noK (by decide))⟩
  rw [e]
  exact hb.set_ 5 _
def ReadBP (w0 : World) (v p : Nat) (b' : Bv) (d : Dk) (V : Value) (e : Ending) (w' : World) : Prop := e = .returned V ∧ Dv w0 w' v p b' d
set_option maxRecDepth 100000 in
set_option maxHeartbeats 1000000 in
theorem ReadB_any {w0 w : World} {v p : Nat} {b : Bv} {d : Dk} (h : Dv w0 w v p b d) (i : Int) (hm : b.misses < 9223372036854775807) : Calls Try.prog 24 #[ptr v, .int .i64 i] w (ReadBP w0 v p (b.readB d i) d (b.readV d i)) := by
  have hfb : Fr [] w (w.alloc (.cells #[.int .i64 i] 3)) := (Fr.refl [] w).alloc _
  have hbb := Blk.new w 3 #[.int .i64 i]
  have HBox := Lib.hid (fun W (hf : Fr [] (w.alloc (.cells #[.int .i64 i] 3)) W) => (show W.cell? ⟨w.heap.size, 0, none⟩ = some (.int .i64 i) from hf.cell_some (hbb.cell 0) (by simp)))
  have HA := Lib.hid (asked_any (h.to hfb) i)
  have H := Lib.hid (h.to hfb)
  have Hvb := Lib.hid (show v ≠ w.heap.size from by have := h.dev.lt; omega)
  have hk0 := HBox.out _ (Fr.refl _ _)
  clear h hfb
  by_cases ha : askedE b d i = 0
  · obtain ⟨hdead, hi0, hic⟩ := askedE_ok ha
    have hok := H.out.dev.ok
    rw [ha] at HA
    obtain ⟨cv, ⟨c0, c1, c2, c3, c4, c5, fz⟩, hks⟩ := H.out.dev.cells
    obtain ⟨A0, n0, cp0, rfl⟩ : ∃ A n cp, cv = .slice A n cp := by
      obtain ⟨A, cp, e, -⟩ := hks
      exact ⟨A, _, cp, e⟩
    have hn0 : n0 = b.cache.length := by
      obtain ⟨A', cap', h1, -⟩ := hks
      injection h1
    have hl16 := hok.l
    have hI := indexF_any A0 n0 cp0 b.cache 63 #[ptr w.heap.size] (fun o => decide (o.at_ = i)) _ hks (by omega) enter63 (fun o W' hf' => read1k_any i o _ W' (HBox.out _ hf'))
    rcases first_ex (fun o : Kp => decide (o.at_ = i)) b.cache with hnone | ⟨j, k, hj, hpk, hno⟩
    · have hI2 := Lib.hid (hI.mono (R' := fun e w' => e = .returned (.int .i64 (-1)) ∧ Fr [] (w.alloc (.cells #[.int .i64 i] 3)) w') (fun e w' ⟨x, he, hx, hf⟩ => ⟨by rw [he, idx_none hx hnone], hf⟩))
      have E1 := Lib.hid (show b.readB d i = (if parseE (d.sec (b.first + i.toNat)) = 0 then b.miss.touch ⟨i, parseD (d.sec (b.first + i.toNat)), parseN (d.sec (b.first + i.toNat))⟩ else b.miss) by unfold Bv.readB; rw [if_neg (by omega), find_none hnone])
      have E2 := Lib.hid (show b.readV d i = ParseR (d.sec (b.first + i.toNat)) by unfold Bv.readV; rw [if_neg (by omega), find_none hnone])
      obtain ⟨hr1, hr2⟩ := H.out.readE ha
      have hsz := sec_size H.out.dd.ok (b.first + i.toNat)
      have hfi := hok.f
      have hcn := hok.c
      have HR := Lib.hid (fun W (h : Dv w0 W v p b.miss d) => (show Calls Try.prog 65 #[ptr p, .int .i64 ((b.first : Int) + i)] W fun e w' => e = .returned (.tuple #[.string (d.sec (b.first + i.toNat)), .int .i64 0]) ∧ Fr [] W w' from
        (h.dd.read ((b.first : Int) + i)).mono fun e w' ⟨he, hf⟩ => ⟨by rw [he, hr1, hr2], hf⟩))
      have HP := Lib.hid (fun W => Parse_any (d.sec (b.first + i.toNat)) W (by rw [hsz]; simp [maxLen]))
      have HM := Lib.hid (fun W (hf : Fr [] (w.alloc (.cells #[.int .i64 i] 3)) W) => (show Dv w0 (W.setCell ⟨v, 5, none⟩ (.int .i64 ((b.misses : Int) + 1))) v p b.miss d from Dv.turn (H.out.to hf) ((Fr.refl _ _).setCell (.inl (by simp)) _) (H.out.to hf).dev.missed ⟨rfl, rfl⟩))
      have HV := Lib.hid (fun W (hf : Fr [] (w.alloc (.cells #[.int .i64 i] 3)) W) => (show W.cell? ⟨v, 5, none⟩ = some (.int .i64 b.misses) ∧ W.frozen? ⟨v, 5, none⟩ = false from ⟨hf.cell_some c5 (by simp), (H.out.to hf).dev.cells.choose_spec.1.fz 5⟩))
      have HW := Lib.hid (fun W (h : Dv w0 W v p b.miss d) => (show W.cell? ⟨v, 0, none⟩ = some (ptr p) ∧ W.cell? ⟨v, 1, none⟩ = some (.int .i64 b.first) from ⟨h.dev.cells.choose_spec.1.c0, h.dev.cells.choose_spec.1.c1⟩))
      have HT := Lib.hid (fun W (h : Dv w0 W v p b.miss d) (k : Kp) => touch_any v p b.miss k W h.dev)
      have hwm : IntKind.i64.wrap ((b.misses : Int) + 1) = (b.misses : Int) + 1 := IntWalk.i64_in _ (by omega)
      have hwi : IntKind.i64.wrap ((b.first : Int) + i) = (b.first : Int) + i := IntWalk.i64_in _ (by omega)
      generalize b.readV d i = RV at *
      generalize b.readB d i = RB at *
      generalize d.sec (b.first + i.toNat) = s at *
      clear hI hnone hks c0 c1 c2 c3 c5 fz hn0 hl16 hok hdead hi0 hic ha hm hbb hr1 hr2 hsz hfi hcn
      by_cases hpe : parseE s = 0
      · have E3 := Lib.hid (show ParseR s = .tuple #[.string (parseD s), .int .i64 (parseN s : Int), .int .i64 0] by unfold ParseR; rw [hpe])
        rw [if_pos hpe] at E1
        rw [E3.out] at E2 HP
        generalize parseD s = D at *
        generalize parseN s = NN at *
        clear E3 hpe
        go_enter Try.func24, Try.ntmps24
        generalize hWB : w.alloc (.cells #[.int .i64 i] 3) = WB at *
        go_wp2_with (first
          | (go_at_call 61; refine HA.out.mono ?_; rintro e w1 ⟨rfl, rfl⟩)
          | (go_at_call 62; refine hI2.out.mono ?_; rintro e w2 ⟨rfl, hf2⟩; obtain ⟨v5, f5⟩ := HV.out _ hf2; have HM2 := Lib.hid (HM.out _ hf2); have b2 := HBox.out _ hf2; have Hf2 := Lib.hid hf2; clear hf2))
        have hvl := Hvb.out
        have k1 : (w2.setCell ⟨v, 5, none⟩ (.int .i64 ((b.misses : Int) + 1))).cell? ⟨w.heap.size, 0, none⟩ = some (.int .i64 i) := ((Fr.refl [v] w2).setCell (.inl (by simp)) _).cell_some b2 (by simp; omega)
        obtain ⟨u0, u1⟩ := HW.out _ HM2.out
        have HMd := Lib.hid (HM2.out.to (Fr.refl [] _).drew)
        go_region_held3 (fun W => W.cell? ⟨w.heap.size, 0, none⟩ = some (.int .i64 i) ∧ W.cell? ⟨v, 0, none⟩ = some (ptr p) ∧ W.cell? ⟨v, 1, none⟩ = some (.int .i64 b.first)) (first | exact ⟨k1, u0, u1⟩ | exact kk | go_keep) (first
          | (go_at_call 65; refine (HR.out _ HMd.out).mono ?_; rintro e w3 ⟨rfl, hf3⟩; have hd3 := HMd.out.to hf3; have kk := (show _ ∧ _ ∧ _ from ⟨hf3.cell_some (show World.cell? (World.drew _) _ = _ from k1) (by simp), (HW.out _ hd3).1, (HW.out _ hd3).2⟩)))
        go_wp2_with (first
          | (go_at_call 17; refine (HP.out _).mono ?_; rintro e w4 ⟨rfl, hf4⟩; have b4 := hf4.cell_some kk.1 (by simp); have hd4 := hd3.to hf4)
          | (go_at_call 64; refine (HT.out _ hd4 ⟨i, D, NN⟩).mono ?_; rintro e w5 ⟨rfl, hd5, hf5⟩))
        go_ret3
        exact ⟨by rw [E2.out]; rfl, by rw [E1.out]; exact Dv.turn hd4 hf5 hd5 ⟨rfl, rfl⟩⟩
      · have E3 := Lib.hid (parseR_bad (s := s) rfl hpe)
        rw [if_neg hpe] at E1
        rw [E3.out] at E2 HP
        generalize parseE s = pe at *
        clear E3
        go_enter Try.func24, Try.ntmps24
        generalize hWB : w.alloc (.cells #[.int .i64 i] 3) = WB at *
        go_wp2_with (first
          | (go_at_call 61; refine HA.out.mono ?_; rintro e w1 ⟨rfl, rfl⟩)
          | (go_at_call 62; refine hI2.out.mono ?_; rintro e w2 ⟨rfl, hf2⟩; obtain ⟨v5, f5⟩ := HV.out _ hf2; have HM2 := Lib.hid (HM.out _ hf2); have b2 := HBox.out _ hf2; have Hf2 := Lib.hid hf2; clear hf2))
        have hvl := Hvb.out
        have k1 : (w2.setCell ⟨v, 5, none⟩ (.int .i64 ((b.misses : Int) + 1))).cell? ⟨w.heap.size, 0, none⟩ = some (.int .i64 i) := ((Fr.refl [v] w2).setCell (.inl (by simp)) _).cell_some b2 (by simp; omega)
        obtain ⟨u0, u1⟩ := HW.out _ HM2.out
        have HMd := Lib.hid (HM2.out.to (Fr.refl [] _).drew)
        go_region_held3 (fun W => W.cell? ⟨w.heap.size, 0, none⟩ = some (.int .i64 i) ∧ W.cell? ⟨v, 0, none⟩ = some (ptr p) ∧ W.cell? ⟨v, 1, none⟩ = some (.int .i64 b.first)) (first | exact ⟨k1, u0, u1⟩ | exact kk | go_keep) (first
          | (go_at_call 65; refine (HR.out _ HMd.out).mono ?_; rintro e w3 ⟨rfl, hf3⟩; have hd3 := HMd.out.to hf3; have kk := (show _ ∧ _ ∧ _ from ⟨hf3.cell_some (show World.cell? (World.drew _) _ = _ from k1) (by simp), (HW.out _ hd3).1, (HW.out _ hd3).2⟩)))
        go_wp2_with (first
          | (go_at_call 17; refine (HP.out _).mono ?_; rintro e w4 ⟨rfl, hf4⟩; have hd4 := hd3.to hf4))
        go_ret3
        exact ⟨by rw [E2.out]; rfl, by rw [E1.out]; exact hd4⟩
    · have hI2 := Lib.hid (hI.mono (R' := fun e w' => e = .returned (.int .i64 (j : Int)) ∧ Fr [] (w.alloc (.cells #[.int .i64 i] 3)) w') (fun e w' ⟨x, he, hx, hf⟩ => ⟨by rw [he, idx_some hx hj hpk hno], hf⟩))
      have E1 := Lib.hid (show b.readB d i = b.touch k by unfold Bv.readB; rw [if_neg (by omega), find_some hj hpk hno])
      have E2 := Lib.hid (show b.readV d i = .tuple #[.string k.data, .int .i64 k.stamp, .int .i64 0] by unfold Bv.readV; rw [if_neg (by omega), find_some hj hpk hno])
      have HC := Lib.hid (fun W (hf : Fr [] (w.alloc (.cells #[.int .i64 i] 3)) W) => (hks.fr hf (NoK.nil _)).cell hj)
      obtain ⟨q, o, rfl, -, -⟩ := hks.cell hj
      have hjn : j < n0 := by rw [hn0]; exact (List.getElem?_eq_some_iff.1 hj).1
      have hj0 : (0 : Int) ≤ (j : Int) := by omega
      have hjn' : (j : Int) < (n0 : Int) := by omega
      have HV := Lib.hid (fun W (hf : Fr [] (w.alloc (.cells #[.int .i64 i] 3)) W) => (show W.cell? ⟨v, 4, none⟩ = some (.slice (some ⟨q, o, none⟩) n0 cp0) from hf.cell_some c4 (by simp)))
      have HT := Lib.hid (fun W (hf : Fr [] (w.alloc (.cells #[.int .i64 i] 3)) W) => touch_any v p b k W ((H.out.to hf).dev))
      generalize b.readV d i = RV at *
      generalize b.readB d i = RB at *
      clear hI hj hpk hno hks c0 c1 c2 c3 c5 fz hn0 hl16 hok hdead hi0 hic ha hm hbb
      go_enter Try.func24, Try.ntmps24
      generalize hWB : w.alloc (.cells #[.int .i64 i] 3) = WB at *
      go_wp2_with (first
        | (go_at_call 61; refine HA.out.mono ?_; rintro e w1 ⟨rfl, rfl⟩)
        | (go_at_call 62; refine hI2.out.mono ?_; rintro e w2 ⟨rfl, hf2⟩; have c4' := HV.out _ hf2; obtain ⟨q', o', hqo, -, d0, d1, d2⟩ := HC.out _ hf2; injection hqo with hqo; injection hqo with e1 e2 _; subst e1; subst e2; have Hf2 := Lib.hid hf2; clear hf2)
        | (go_at_call 64; refine (HT.out _ (Hf2.out.alloc _)).mono ?_; rintro e w3 ⟨rfl, hd3, hf3⟩; have hvl := ((H.out.to Hf2.out).dev.lt); have r1 := hf3.cell_some ((Blk.new w2 117 #[.int .i64 k.at_, .string k.data, .int .i64 k.stamp]).cell 1) (by simp; omega); have r2 := hf3.cell_some ((Blk.new w2 117 #[.int .i64 k.at_, .string k.data, .int .i64 k.stamp]).cell 2) (by simp; omega); simp at r1 r2; have Hfin := Lib.hid (Dv.turn (H.out.to (Hf2.out.alloc _)) hf3 hd3 ⟨rfl, rfl⟩); clear hd3 hf3 hvl))
      go_quiet (fail)
      go_wp2_with fail
      go_ret3
      exact ⟨by rw [E2.out]; rfl, by rw [E1.out]; exact Hfin.out.to ((Fr.refl [] _).drewN _)⟩
  · have E1 := Lib.hid (show b.readB d i = b from if_pos ha)
    have E2 := Lib.hid (show b.readV d i = .tuple #[.string ⟨#[]⟩, .int .i64 0, .int .i64 (askedE b d i)] from if_pos ha)
    generalize b.readV d i = RV at *
    generalize b.readB d i = RB at *
    generalize askedE b d i = V at *
    clear hm hbb
    go_enter Try.func24, Try.ntmps24
    go_wp2_with (go_at_call 61; refine HA.out.mono ?_; rintro e w1 ⟨rfl, rfl⟩)
    go_ret3
    exact ⟨by rw [E2.out]; rfl, by rw [E1.out]; exact H.out⟩
end Go.Proofs.Ythmnloapjdalpaa
namespace Go.Proofs.Ythmnloapjdalpaa
open Go.RowKit
set_option linter.unusedVariables false
set_option linter.unusedSimpArgs false
def Bv.stampV (b : Bv) (d : Dk) (i : Int) : Value :=
  if askedE b d i ≠ 0 then .tuple #[.int .i64 0, .int .i64 (askedE b d i)] else
  if stampedE (d.sec (b.first + i.toNat)) = false then .tuple #[.int .i64 0, .int .i64 153] else .tuple #[.int .i64 (stampOf (d.sec (b.first + i.toNat)) : Int), .int .i64 0]
def Bv.writeE (b : Bv) (d : Dk) (i : Int) (t : ByteArray) (n : Int) : Int :=
  if askedE b d i ≠ 0 then askedE b d i else if bytesE t n ≠ 0 then bytesE t n else d.writeE ((b.first : Int) + i) (bytesV t n)
def Bv.writeD (b : Bv) (d : Dk) (i : Int) (t : ByteArray) (n : Int) : Dk :=
  if askedE b d i ≠ 0 then d else if bytesE t n ≠ 0 then d else d.writeS ((b.first : Int) + i) (bytesV t n)
def Bv.writeB (b : Bv) (d : Dk) (i : Int) (t : ByteArray) (n : Int) : Bv :=
  if b.writeE d i t n ≠ 0 then b else b.touch ⟨i, (bytesV t n).extract 0 116, n⟩
def Bv.barrierE (b : Bv) (d : Dk) : Int := if d.dead then 2 else d.flushE b.first b.count
def Bv.barrierD (b : Bv) (d : Dk) : Dk := if d.dead then d else d.flushS b.first b.count
theorem writeS_n (d : Dk) (i : Int) (t : ByteArray) : (d.writeS i t).n = d.n := by
  unfold Dk.writeS
  split
  · split
    · show ((d.put i.toNat t).tick).n = d.n
      unfold Dk.tick
      split <;> rfl
    · unfold Dk.tick
      split <;> rfl
  · rfl
theorem flushS_n (d : Dk) (a b : Int) : (d.flushS a b).n = d.n := by
  unfold Dk.flushS
  split
  · split
    · show (d.tick).n = d.n
      unfold Dk.tick
      split <;> rfl
    · show (d.tick).n = d.n
      unfold Dk.tick
      split <;> rfl
  · rfl
section
variable {w0 w : World} {v p : Nat} {b : Bv} {d : Dk}
theorem Dv.write (h : Dv w0 w v p b d) (i : Int) (t : ByteArray) (ht : t.size ≤ maxLen) : Calls Try.prog 30 #[ptr p, .int .i64 i, .string t] w fun e w' => e = .returned (.int .i64 (d.writeE i t)) ∧ Dv w0 w' v p b (d.writeS i t) := by
  obtain ⟨⟨f, g, m, ha, h1, h2, h3⟩, hv, hv0, hi⟩ := h
  exact (Write_any p g m d i t w ha ht).mono fun e w' ⟨he, hT⟩ => ⟨he, Dv.disk f ha h1 h2 h3 hv hv0 (by rw [writeS_n]; exact hi) hT⟩
theorem Dv.flush (h : Dv w0 w v p b d) (x y : Int) (hx : x ≤ 9223372036854775807) (hy : y ≤ 9223372036854775807) : Calls Try.prog 48 #[ptr p, .int .i64 x, .int .i64 y] w fun e w' => e = .returned (.int .i64 (d.flushE x y)) ∧ Dv w0 w' v p b (d.flushS x y) := by
  obtain ⟨⟨f, g, m, ha, h1, h2, h3⟩, hv, hv0, hi⟩ := h
  exact (Flush_any p g m d x y w ha hx hy).mono fun e w' ⟨he, hT⟩ => ⟨he, Dv.disk f ha h1 h2 h3 hv hv0 (by rw [flushS_n]; exact hi) hT⟩
theorem Dv.cells (h : Dv w0 w v p b d) : w.cell? ⟨v, 0, none⟩ = some (ptr p) ∧ w.cell? ⟨v, 1, none⟩ = some (.int .i64 b.first) ∧ w.cell? ⟨v, 2, none⟩ = some (.int .i64 b.count) :=
  ⟨h.dev.cells.choose_spec.1.c0, h.dev.cells.choose_spec.1.c1, h.dev.cells.choose_spec.1.c2⟩
set_option maxRecDepth 100000 in
theorem Barrier_any (h : Dv w0 w v p b d) : Calls Try.prog 26 #[ptr v] w fun e w' => e = .returned (.int .i64 (b.barrierE d)) ∧ Dv w0 w' v p b (b.barrierD d) := by
  have hD := Lib.hid h.dd.isDead
  have hf := h.dev.ok.f
  have hc := h.dev.ok.c
  have HF := Lib.hid (fun W (hh : Dv w0 W v p b d) => hh.flush b.first b.count (by omega) (by omega))
  have H := Lib.hid h
  obtain ⟨c0, c1, c2⟩ := h.cells
  cases hd : d.dead with
  | true =>
    have E1 := Lib.hid (show (2 : Int) = b.barrierE d by unfold Bv.barrierE; rw [hd]; rfl)
    have E2 := Lib.hid (show b.barrierD d = d by unfold Bv.barrierD; rw [hd]; rfl)
    rw [hd] at hD
    generalize b.barrierE d = V at *
    generalize b.barrierD d = DD at *
    clear h c1 c2 hf hc
    go_enter Try.func26, Try.ntmps26
    go_wp2_with (go_at_call 66; refine hD.out.mono ?_; rintro e w1 ⟨rfl, rfl⟩)
    go_ret
    exact ⟨ret_int E1.out, by rw [E2.out]; exact H.out⟩
  | false =>
    have E1 := Lib.hid (show d.flushE b.first b.count = b.barrierE d by unfold Bv.barrierE; rw [hd]; rfl)
    have E2 := Lib.hid (show b.barrierD d = d.flushS b.first b.count by unfold Bv.barrierD; rw [hd]; rfl)
    rw [hd] at hD
    generalize b.barrierE d = V at *
    generalize b.barrierD d = DD at *
    generalize d.flushE b.first b.count = VF at *
    generalize d.flushS b.first b.count = DF at *
    clear h hf hc
    go_enter Try.func26, Try.ntmps26
    go_wp2_with (go_at_call 66; refine hD.out.mono ?_; rintro e w1 ⟨rfl, rfl⟩)
    have Hdr := Lib.hid (H.out.to (Fr.refl _ _).drew)
    go_region_held3 (fun W => W.cell? ⟨v, 0, none⟩ = some (ptr p) ∧ W.cell? ⟨v, 1, none⟩ = some (.int .i64 b.first) ∧ W.cell? ⟨v, 2, none⟩ = some (.int .i64 b.count)) (first | exact ⟨c0, c1, c2⟩ | exact kk | go_keep) (first
      | (go_at_call 48; refine (HF.out _ Hdr.out).mono ?_; rintro e w4 ⟨rfl, hT⟩; have kk := hT.cells))
    go_wp2_with fail
    go_ret
    exact ⟨ret_int E1.out, by rw [E2.out]; exact hT⟩
set_option maxRecDepth 100000 in
theorem Stamp_any (h : Dv w0 w v p b d) (i : Int) : Calls Try.prog 34 #[ptr v, .int .i64 i] w fun e w' => e = .returned (b.stampV d i) ∧ Dv w0 w' v p b d := by
  have HA := Lib.hid (asked_any h i)
  have H := Lib.hid h
  by_cases ha : askedE b d i = 0
  · obtain ⟨hdead, hi0, hic⟩ := askedE_ok ha
    have hok := h.dev.ok
    rw [ha] at HA
    obtain ⟨hr1, hr2⟩ := h.readE ha
    have hsz := sec_size h.dd.ok (b.first + i.toNat)
    have hfi := hok.f
    have hcn := hok.c
    have HR := Lib.hid (fun W (h : Dv w0 W v p b d) => (show Calls Try.prog 65 #[ptr p, .int .i64 ((b.first : Int) + i)] W fun e w' => e = .returned (.tuple #[.string (d.sec (b.first + i.toNat)), .int .i64 0]) ∧ Fr [] W w' from
      (h.dd.read ((b.first : Int) + i)).mono fun e w' ⟨he, hf⟩ => ⟨by rw [he, hr1, hr2], hf⟩))
    have HP := Lib.hid (fun W => stamped_any (d.sec (b.first + i.toNat)) hsz W)
    have hwi : IntKind.i64.wrap ((b.first : Int) + i) = (b.first : Int) + i := IntWalk.i64_in _ (by omega)
    obtain ⟨c0, c1, c2⟩ := h.cells
    have HC := Lib.hid (fun W (h : Dv w0 W v p b d) => (show W.cell? ⟨v, 0, none⟩ = some (ptr p) ∧ W.cell? ⟨v, 1, none⟩ = some (.int .i64 b.first) from ⟨h.cells.1, h.cells.2.1⟩))
    have Hdr := Lib.hid (h.to (Fr.refl _ _).drew)
    cases hse : stampedE (d.sec (b.first + i.toNat)) with
    | true =>
      have E := Lib.hid (show b.stampV d i = .tuple #[.int .i64 (stampOf (d.sec (b.first + i.toNat)) : Int), .int .i64 0] by unfold Bv.stampV; rw [if_neg (by omega), hse, if_neg (by simp)])
      have E2 : stampedN (d.sec (b.first + i.toNat)) = stampOf (d.sec (b.first + i.toNat)) := by unfold stampedN; rw [hse, if_pos rfl]
      rw [hse, E2] at HP
      generalize stampOf (d.sec (b.first + i.toNat)) = ST at *
      generalize d.sec (b.first + i.toNat) = s at *
      generalize b.stampV d i = RV at *
      clear h ha hdead hi0 hic hok hr1 hr2 hsz hfi hcn hse E2
      go_enter Try.func34, Try.ntmps34
      go_wp2_with (go_at_call 61; refine HA.out.mono ?_; rintro e w1 ⟨rfl, rfl⟩)
      go_region_held3 (fun W => W.cell? ⟨v, 0, none⟩ = some (ptr p) ∧ W.cell? ⟨v, 1, none⟩ = some (.int .i64 b.first)) (first | exact ⟨c0, c1⟩ | exact kk | go_keep) (first
        | (go_at_call 65; refine (HR.out _ Hdr.out).mono ?_; rintro e w3 ⟨rfl, hf3⟩; have hd3 := Hdr.out.to hf3; have kk := HC.out _ hd3))
      go_wp2_with (go_at_call 58; refine (HP.out _).mono ?_; rintro e w4 ⟨rfl, rfl⟩)
      go_ret2
      exact ⟨by rw [E.out]; rfl, hd3⟩
    | false =>
      have E := Lib.hid (show b.stampV d i = .tuple #[.int .i64 0, .int .i64 153] by unfold Bv.stampV; rw [if_neg (by omega), hse, if_pos rfl])
      have E2 : stampedN (d.sec (b.first + i.toNat)) = 0 := by unfold stampedN; rw [hse]; rfl
      rw [hse, E2] at HP
      generalize d.sec (b.first + i.toNat) = s at *
      generalize b.stampV d i = RV at *
      clear h ha hdead hi0 hic hok hr1 hr2 hsz hfi hcn hse E2
      go_enter Try.func34, Try.ntmps34
      go_wp2_with (go_at_call 61; refine HA.out.mono ?_; rintro e w1 ⟨rfl, rfl⟩)
      go_region_held3 (fun W => W.cell? ⟨v, 0, none⟩ = some (ptr p) ∧ W.cell? ⟨v, 1, none⟩ = some (.int .i64 b.first)) (first | exact ⟨c0, c1⟩ | exact kk | go_keep) (first
        | (go_at_call 65; refine (HR.out _ Hdr.out).mono ?_; rintro e w3 ⟨rfl, hf3⟩; have hd3 := Hdr.out.to hf3; have kk := HC.out _ hd3))
      go_wp2_with (go_at_call 58; refine (HP.out _).mono ?_; rintro e w4 ⟨rfl, rfl⟩)
      go_ret2
      exact ⟨by rw [E.out]; rfl, hd3⟩
  · have E := Lib.hid (show b.stampV d i = .tuple #[.int .i64 0, .int .i64 (askedE b d i)] from if_pos ha)
    generalize b.stampV d i = RV at *
    generalize askedE b d i = V at *
    clear h
    go_enter Try.func34, Try.ntmps34
    go_wp2_with (go_at_call 61; refine HA.out.mono ?_; rintro e w1 ⟨rfl, rfl⟩)
    go_ret2
    exact ⟨by rw [E.out]; rfl, H.out⟩
end
theorem bytesV_ok {t : ByteArray} {n : Int} (h : bytesE t n = 0) : (bytesV t n).size = 128 := by
  unfold bytesV
  rw [if_pos h]
  show (blkL t n.toNat).toArray.size = 128
  rw [List.size_toArray]
  unfold blkL
  rw [List.length_append, List.length_append, padB_len, numB_len, numB_len]
section
variable {w0 w : World} {v p : Nat} {b : Bv} {d : Dk}
set_option maxRecDepth 100000 in
theorem WriteB_any (h : Dv w0 w v p b d) (i : Int) (t : ByteArray) (n : Int) (ht : t.size ≤ maxLen) : Calls Try.prog 25 #[ptr v, .int .i64 i, .string t, .int .i64 n] w fun e w' => e = .returned (.int .i64 (b.writeE d i t n)) ∧ Dv w0 w' v p (b.writeB d i t n) (b.writeD d i t n) := by
  have HA := Lib.hid (asked_any h i)
  have HB := Lib.hid (fun W => Bytes_any t n W ht)
  have H := Lib.hid h
  by_cases ha : askedE b d i = 0
  · rw [ha] at HA
    by_cases hb : bytesE t n = 0
    · obtain ⟨hdead, hi0, hic⟩ := askedE_ok ha
      have hfi := h.dev.ok.f
      have hcn := h.dev.ok.c
      have hsz := bytesV_ok hb
      have hwi : IntKind.i64.wrap ((b.first : Int) + i) = (b.first : Int) + i := IntWalk.i64_in _ (by omega)
      have HW := Lib.hid (fun W (hh : Dv w0 W v p b d) => hh.write ((b.first : Int) + i) (bytesV t n) (by rw [hsz]; simp [maxLen]))
      have E1 := Lib.hid (show d.writeE ((b.first : Int) + i) (bytesV t n) = b.writeE d i t n by unfold Bv.writeE; rw [if_neg (by omega), if_neg (by omega)])
      have E2 := Lib.hid (show b.writeD d i t n = d.writeS ((b.first : Int) + i) (bytesV t n) by unfold Bv.writeD; rw [if_neg (by omega), if_neg (by omega)])
      have E3 := Lib.hid (show b.writeB d i t n = if b.writeE d i t n ≠ 0 then b else b.touch ⟨i, (bytesV t n).extract 0 116, n⟩ from rfl)
      rw [hb] at HB
      have hsl := fun wx => sl_h (bytesV t n) 116 (116 : Int) rfl wx (by omega)
      have HC := Lib.hid (fun W (hf : Fr [] w W) => (show W.cell? ⟨v, 0, none⟩ = some (ptr p) ∧ W.cell? ⟨v, 1, none⟩ = some (.int .i64 b.first) from ⟨(h.to hf).cells.1, (h.to hf).cells.2.1⟩))
      have HT := Lib.hid (fun W d' (hh : Dv w0 W v p b d') (k : Kp) => touch_any v p b k W hh.dev)
      generalize (bytesV t n).extract 0 116 = X at *
      generalize b.writeD d i t n = WD at *
      generalize d.writeS ((b.first : Int) + i) (bytesV t n) = WS at *
      generalize b.writeB d i t n = WB at *
      generalize bytesV t n = s at *
      by_cases he : b.writeE d i t n = 0
      · rw [he] at E1
        rw [if_neg (by omega)] at E3
        rw [he]
        rw [E1.out] at HW
        clear h ha hb hdead hi0 hic hfi hcn hsz he
        go_enter Try.func25, Try.ntmps25
        go_wp2_with (first
          | (go_at_call 61; refine HA.out.mono ?_; rintro e w1 ⟨rfl, rfl⟩)
          | (go_at_call 15; refine (HB.out _).mono ?_; rintro e w2 ⟨rfl, hf2⟩; obtain ⟨c0, c1⟩ := HC.out _ hf2; have hd2 := H.out.to hf2))
        have Hdr := Lib.hid (hd2.to (Fr.refl _ _).drew)
        go_region_held3 (fun W => W.cell? ⟨v, 0, none⟩ = some (ptr p) ∧ W.cell? ⟨v, 1, none⟩ = some (.int .i64 b.first)) (first | exact ⟨c0, c1⟩ | exact kk | go_keep) (first
          | (go_at_call 30; refine (HW.out _ Hdr.out).mono ?_; rintro e w4 ⟨rfl, hT⟩; have kk := (show _ ∧ _ from ⟨hT.cells.1, hT.cells.2.1⟩)))
        go_wp2_with (go_at_call 64; refine (HT.out _ _ hT ⟨i, X, n⟩).mono ?_; rintro e w5 ⟨rfl, hd5, hf5⟩)
        go_ret
        exact ⟨rfl, by rw [E2.out, E3.out]; exact Dv.turn hT hf5 hd5 ⟨rfl, rfl⟩⟩
      · rw [if_pos he] at E3
        generalize b.writeE d i t n = V at *
        rw [E1.out] at HW
        clear h ha hb hdead hi0 hic hfi hcn hsz
        go_enter Try.func25, Try.ntmps25
        go_wp2_with (first
          | (go_at_call 61; refine HA.out.mono ?_; rintro e w1 ⟨rfl, rfl⟩)
          | (go_at_call 15; refine (HB.out _).mono ?_; rintro e w2 ⟨rfl, hf2⟩; obtain ⟨c0, c1⟩ := HC.out _ hf2; have hd2 := H.out.to hf2))
        have Hdr := Lib.hid (hd2.to (Fr.refl _ _).drew)
        go_region_held3 (fun W => W.cell? ⟨v, 0, none⟩ = some (ptr p) ∧ W.cell? ⟨v, 1, none⟩ = some (.int .i64 b.first)) (first | exact ⟨c0, c1⟩ | exact kk | go_keep) (first
          | (go_at_call 30; refine (HW.out _ Hdr.out).mono ?_; rintro e w4 ⟨rfl, hT⟩; have kk := (show _ ∧ _ from ⟨hT.cells.1, hT.cells.2.1⟩)))
        go_wp2_with fail
        go_ret
        exact ⟨rfl, by rw [E2.out, E3.out]; exact hT⟩
    · have E1 := Lib.hid (show bytesE t n = b.writeE d i t n by unfold Bv.writeE; rw [if_neg (by omega), if_pos hb])
      have E2 := Lib.hid (show b.writeD d i t n = d by unfold Bv.writeD; rw [if_neg (by omega), if_pos hb])
      have E3 := Lib.hid (show b.writeB d i t n = b by unfold Bv.writeB; rw [← E1.out, if_pos hb])
      generalize b.writeD d i t n = WD at *
      generalize b.writeB d i t n = WB at *
      generalize b.writeE d i t n = V at *
      generalize bytesE t n = VB at *
      generalize bytesV t n = s at *
      clear h ha
      go_enter Try.func25, Try.ntmps25
      go_wp2_with (first
        | (go_at_call 61; refine HA.out.mono ?_; rintro e w1 ⟨rfl, rfl⟩)
        | (go_at_call 15; refine (HB.out _).mono ?_; rintro e w2 ⟨rfl, hf2⟩))
      go_ret
      exact ⟨ret_int E1.out, by rw [E2.out, E3.out]; exact H.out.to hf2⟩
  · have E1 := Lib.hid (show askedE b d i = b.writeE d i t n by unfold Bv.writeE; rw [if_pos ha])
    have E2 := Lib.hid (show b.writeD d i t n = d by unfold Bv.writeD; rw [if_pos ha])
    have E3 := Lib.hid (show b.writeB d i t n = b by unfold Bv.writeB; rw [← E1.out, if_pos ha])
    generalize b.writeD d i t n = WD at *
    generalize b.writeB d i t n = WB at *
    generalize b.writeE d i t n = V at *
    generalize askedE b d i = VA at *
    clear h
    go_enter Try.func25, Try.ntmps25
    go_wp2_with (go_at_call 61; refine HA.out.mono ?_; rintro e w1 ⟨rfl, rfl⟩)
    go_ret
    exact ⟨ret_int E1.out, by rw [E2.out, E3.out]; exact H.out⟩
end
end Go.Proofs.Ythmnloapjdalpaa

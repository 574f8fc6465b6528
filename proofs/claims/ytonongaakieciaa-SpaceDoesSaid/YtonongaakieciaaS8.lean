/- Partitions: New, not refused. -/
import Derived.Test.YtonongaakieciaaS7
import Derived.Deep.AppendLies
namespace Go.Proofs.Ytonongaakieciaa
open Go.RowKit Go.Shelf
attribute [local go_sem] Oper.semAt_some
set_option linter.unusedVariables false
set_option linter.unusedSimpArgs false
set_option maxRecDepth 100000
theorem cut_pages (g N cp lo hi : Nat) (h1 : lo < hi) (h2 : hi ≤ cp) (w : World) : (Instr.slice 62 (.slice (some ⟨g, 0, none⟩) N cp) (some (.int .i64 (lo : Int))) (some (.int .i64 (hi : Int))) (some (.int .i64 (hi : Int)))).run Try.prog w = .ok (.slice (some ⟨g, lo * 2, none⟩) (hi - lo) (hi - lo)) w := by
  obtain ⟨i0, hi0, hz0, hz1, hz2⟩ := info3 Try.info61
  have e : Try.prog.elem 62 = 61 := by kernel_rfl
  have h := run_slice_lhm (P := Try.prog) w 62 (some ⟨g, 0, none⟩) N cp (by kernel_rfl) .i64 .i64 .i64 (lo : Int) (hi : Int) (hi : Int) (by omega) (by omega) (Int.le_refl _) (by omega)
  rw [h, e]
  simp [go_sem, hi0, hz1, sliced]
  omega
/-- The new space. -/
def rowN (t : List Pg) (j : Nat) : List Pg := (List.range (rN t j)).map fun i => ⟨((tot t j + i : Nat) : Int), 3⟩
def spNew (t : List Pg) : Sp := ⟨⟨tot t t.length, fun _ => 0⟩, (List.range t.length).map (rowN t)⟩
def NewP (w : World) (t : List Pg) (e : Ending) (w' : World) : Prop := ∃ s p F g, e = .returned (.tuple #[ptr s, .int .i64 0]) ∧ SpAt w' s p F g (spNew t) ∧ Fr [] w w' ∧ w.heap.size ≤ s ∧ w.heap.size ≤ p ∧ w.heap.size ≤ F ∧ w.heap.size ≤ g
/-- The pages of all tables. -/
theorem pgs_at (t : List Pg) (m i : Nat) (h : i < tot t m) : ((dlt t m 0).map pgOf)[i]? = some ⟨(i : Int), 3⟩ := by
  have h1 : ((dlt t m 0).map (·.2))[i]? = some i := by rw [dlt_snd, List.getElem?_range (by omega)]
  rw [List.getElem?_map] at h1 ⊢
  cases hx : (dlt t m 0)[i]? with
  | none => rw [hx] at h1; cases h1
  | some x =>
    rw [hx] at h1
    simp at h1
    simp [pgOf, h1]
theorem tot_mono {t : List Pg} {j k : Nat} (h : j ≤ k) : tot t j ≤ tot t k := by
  induction k with
  | zero => rw [Nat.le_zero.1 h]; exact Nat.le_refl _
  | succ k ih =>
    rcases Nat.lt_or_ge k j with h1 | h1
    · rw [show j = k + 1 by omega]; exact Nat.le_refl _
    · rw [tot_succ]; have := ih h1; omega
/-- A table out of the pages of all. -/
theorem row_at {t : List Pg} {m j g : Nat} {W : World} (hP : PB W g ((dlt t m 0).map pgOf)) (hj : j < m) (h16 : rN t j ≤ 16) (h1 : 1 ≤ rN t j) : TbT W (.slice (some ⟨g, tot t j * 2, none⟩) (rN t j) (rN t j)) (rowN t j) := by
  have hlt := hP.lt
  obtain ⟨cs, hb, -⟩ := id hP
  have hl : (rowN t j).length = rN t j := by unfold rowN; simp
  have hm : tot t (j + 1) ≤ tot t m := tot_mono hj
  rw [tot_succ] at hm
  refine ⟨_, rN t j, by rw [hl], by omega, by simp only [maxLen]; omega, (fun h => by cases h), g, cs, _, hb, (by rw [hl]; simp only [maxLen]; omega), _, rN t j, (by rw [hl]), fun i p hi => ?_⟩
  have hil : i < rN t j := by have := (List.getElem?_eq_some_iff.1 hi).1; omega
  have hp : p = ⟨((tot t j + i : Nat) : Int), 3⟩ := by
    unfold rowN at hi
    rw [List.getElem?_map, List.getElem?_range hil] at hi
    injection hi with hi
    exact hi.symm
  subst hp
  obtain ⟨c0, c1⟩ := hP.cells (pgs_at t m (tot t j + i) (by omega))
  exact ⟨tot t j * 2, rfl, hlt, by rw [← c0]; congr 2; omega, by rw [← c1]; congr 2; omega⟩
/-- The values of the tables. -/
def valsN (t : List Pg) (g j : Nat) : List Value := (List.range j).map fun i => .slice (some ⟨g, tot t i * 2, none⟩) (rN t i) (rN t i)
theorem valsN_succ (t : List Pg) (g j : Nat) : valsN t g (j + 1) = valsN t g j ++ [.slice (some ⟨g, tot t j * 2, none⟩) (rN t j) (rN t j)] := by
  unfold valsN
  rw [List.range_succ, List.map_append]
  rfl
/-- What the last loop keeps. -/
structure NwL (W1 : World) (p gP : Nat) (t : List Pg) (j : Nat) (A : Option Addr) (c : Nat) (wr : World) : Prop where
  hb : Blk wr W1.heap.size 114 #[ptr p, .slice A j c]
  own : wr.ownsRow (W1.heap.size + 1) 62 1 (.slice A j c) j (valsN t gP j)
  fr : Fr [] W1 wr
theorem NwL.done {W1 wr : World} {p F gP m c : Nat} {A : Option Addr} {t : List Pg} (h : NwL W1 p gP t m A c wr) (hok : t.all ptOk = true) (hm : m = t.length) (h1 : 1 ≤ m) (h8 : m ≤ 8) (hM : MemAt W1 p F ⟨tot t m, fun _ => 0⟩) (hP : PB W1 gP ((dlt t m 0).map pgOf)) : ∃ g, SpAt wr W1.heap.size p F g (spNew t) ∧ W1.heap.size ≤ g := by
  obtain ⟨hb, ho, hf⟩ := h
  have hl : (spNew t).tb.length = m := by unfold spNew; simp [hm]
  have hr : ∀ j, j < m → 1 ≤ rN t j ∧ rN t j ≤ 16 := fun j hj => by
    obtain ⟨q, hq⟩ : ∃ q, t[j]? = some q := ⟨_, List.getElem?_eq_getElem (by omega)⟩
    obtain ⟨g1, g2, g3⟩ := ptOk_all hok hq
    omega
  have hv : (Value.slice A m c) ≠ .slice none 0 0 := by
    intro hv
    injection hv with _ hv _
    omega
  have htb : ∀ (i : Nat) (u : List Pg), (spNew t).tb[i]? = some u → i < m ∧ u = rowN t i := fun i u hi => by
    have hil : i < m := by have := (List.getElem?_eq_some_iff.1 hi).1; omega
    refine ⟨hil, ?_⟩
    unfold spNew at hi
    simp only at hi
    rw [List.getElem?_map, List.getElem?_range (by omega)] at hi
    injection hi with hi
    exact hi.symm
  obtain ⟨g', cap, cs', e, q1, q2, q3, q4, q5⟩ := own_some ho hv
  injection e with e1 _ e2
  subst e1 e2
  refine ⟨g', SpAt.mk' (by rw [hl]; exact hb) (by omega) q3 (by rw [show (spNew t).st = ⟨tot t m, fun _ => 0⟩ from by unfold spNew; rw [hm]]; exact hM.to hf (by simp) (by simp)) ⟨cs', q4, fun i u hi => ?_⟩ (by omega) (by omega) (fun i u hi => ?_), by omega⟩
  · obtain ⟨hil, rfl⟩ := htb i u hi
    refine ⟨_, q5 i _ (by unfold valsN; rw [List.getElem?_map, List.getElem?_range hil]; rfl), row_at (hP.fr hf (by simp)) hil (hr i hil).2 (hr i hil).1⟩
  · obtain ⟨hil, rfl⟩ := htb i u hi
    unfold rowN
    simpa using (hr i hil).2
/-- A code that does not panic, in a function with a mark among its defers. -/
theorem wp_calm {P : Program} {c : Code} {K : Act → World → Prop} {Q : Exit → Act → World → Prop} {a : Act} {w : World} (h : c.wp P (Exit.then K (fun _ _ _ => False)) a w) : c.wp P (Exit.then K Q) a w :=
  Code.wp_mono (fun e a w h => by
    cases e with
    | normal => exact h
    | _ => exact False.elim h) h
def NwA (w : World) (m s : Nat) (x : Nat × Nat) (a' : Act) (W : World) : Prop :=
  ∃ ts : Array Value, a' = { tmps := ts, defers := [] } ∧ ts.size = 75 ∧ ts.getD 5 undef = ptr s ∧ ts.getD 6 undef = ptr (s + 2) ∧ ts.getD 7 undef = .int .i64 ((min x.1 (m - 1) : Nat) : Int) ∧ ts.getD 8 undef = .int .i64 (x.2 : Int)
set_option maxHeartbeats 4000000 in
theorem SNew_ok (b m cap : Nat) (A : Option Addr) (t : List Pg) (w : World) (ht : Tb w b (.slice A m cap) t) (hE : ptsE t = 0) : Calls Try.prog 13 #[.slice A m cap] w (NewP w t) := by
  have hm := ht.n_eq
  have hok : (1 ≤ m ∧ m ≤ 8) ∧ t.all ptOk = true := by
    unfold ptsE at hE
    split at hE
    · next h => exact ⟨by omega, h.2⟩
    · omega
  obtain ⟨⟨h1, h8⟩, hok⟩ := hok
  have hbw : b < w.heap.size := by
    obtain ⟨q, hq⟩ : ∃ q, t[0]? = some q := ⟨_, List.getElem?_eq_getElem (by omega)⟩
    obtain ⟨off, -, hb, -⟩ := ht.at_ hq
    exact hb
  have hml := ht.len
  have HI := Lib.hid (fun W => in_any (m : Int) 1 8 W)
  have HC := Lib.hid (containsQ_any b m cap A t w ht h8)
  rw [hok] at HC
  have E3 : (decide ((1 : Int) ≤ (m : Int)) && decide ((m : Int) ≤ 8)) = true := by
    rw [Bool.and_eq_true, decide_eq_true_eq, decide_eq_true_eq]
    omega
  rw [E3] at HI
  have H := Lib.hid ht
  have HM := Lib.hid hm
  have HOk := Lib.hid hok
  obtain ⟨Z, hmk, hz⟩ := make_ints m h8
  have Hz := Lib.hid hz
  obtain ⟨i0, hi0, hz0, hz1, hz2⟩ := info3 Try.info61
  obtain ⟨j0, hj0, jz0, jz1, jz2⟩ := info3 Try.info62
  have H1 := Lib.hid h1
  obtain ⟨Po, hPo⟩ : ∃ Po, NewP w t = Po := ⟨_, rfl⟩
  rw [hPo]
  have HPo := Lib.hid hPo
  clear ht hE E3 hm hok hz hPo h1
  refine (callsIn_wide (n := 3)).1 ?_
  refine callsIn_of_wp_marks Try.func13 rfl trivial (wpIn_wide.2 ?_)
  simp only [Try.ntmps13, List.size_toArray, List.length_cons, List.length_nil, Nat.reduceAdd, Nat.reduceSub, Array.replicate_succ, Array.replicate_zero, List.push_toArray, List.append_toArray, List.nil_append, List.cons_append]
  go_wp2_with (first
    | (go_at_call 55; refine (HI.out _).mono ?_; rintro e w1 ⟨rfl, rfl⟩)
    | (go_at_call 56; refine HC.out.mono ?_; rintro e w1 ⟨rfl, hf1⟩)
    | (go_at_call 57; refine (dealt_any A m cap _).mono ?_; rintro e w' ⟨rfl, rfl⟩)
    | fail)
  rename_i K0 hK0
  have HK0 := Lib.hid hK0
  clear hK0
  have hsz1 := hf1.size
  have bA := Blk.new w1 62 #[.slice none 0 0]
  have bZ := Blk.new (w1.alloc (.cells #[.slice none 0 0] 62)) 3 Z
  have bH := Blk.new ((w1.alloc (.cells #[.slice none 0 0] 62)).alloc (.cells Z 3)) 49 #[.slice (some ⟨w1.heap.size + 1, 0, none⟩) m m]
  have bK := Blk.new (((w1.alloc (.cells #[.slice none 0 0] 62)).alloc (.cells Z 3)).alloc (.cells #[.slice (some ⟨w1.heap.size + 1, 0, none⟩) m m] 49)) 22 #[.slice A m cap]
  simp only [World.size_alloc] at bA bZ bH bK
  obtain ⟨W0, hW0⟩ : ∃ W0, (((w1.alloc (.cells #[.slice none 0 0] 62)).alloc (.cells Z 3)).alloc (.cells #[.slice (some ⟨w1.heap.size + 1, 0, none⟩) m m] 49)).alloc (.cells #[.slice A m cap] 22) = W0 := ⟨_, rfl⟩
  have hI0 : NwI w m w1.heap.size [] W0 := by
    rw [← hW0]
    exact ⟨⟨_, ((bA.alloc _).alloc _).alloc _, World.ownsRow_nil _ _ _ _⟩, bH.alloc _, ⟨Z, (bZ.alloc _).alloc _, fun j hj => Hz.out j hj⟩, (((hf1.alloc _).alloc _).alloc _).alloc _⟩
  have hszE : W0.heap.size = w1.heap.size + 4 := by rw [← hW0]; simp only [World.size_alloc]
  rw [hW0] at bK ⊢
  clear hW0 bA bZ bH hmk
  generalize hs : w1.heap.size = s at *
  rw [show s + 1 + 1 = s + 2 from rfl, show s + 2 + 1 = s + 3 from rfl] at *
  have hfW := hI0.fr
  refine (wpIn_wide (n := 3)).1 ?_
  refine wpIn_rangeFunc_ownH rfl (by omega) (gf := 90) (lb := #[ptr (s + 3)]) rfl trivial (enters_of Try.func90 (by kernel_rfl) rfl)
    (dealt_stops Fence.wide (3 - 1) trivial rfl (by omega) (s + 3) w.heap.size m cap b A t HOk.out HM.out h8 W0 bK (H.out.fr hfW (by simp)) hbw (by omega)) (fun h k => h.trans k) (belowK_b (by omega)) (Below.refl _ _) (fun x => rfl)
    (NwI w m s) (fun _ _ _ => False) (NwI.from_ (by omega)) (fun c => fun _ _ _ _ h _ _ => h) hI0
    (NwA w m s) (fun x a' => fun _ X Y row hs hg hr => hs)
    ?assign ?body ?done ?stop
  case assign =>
    rintro l' pre x W K hI hK
    unfold denc
    gi_wp2
    exact hK _ _ (KeepsFrom.refl _ _) (Below.refl _ _) hI ⟨_, rfl, rfl, rfl, rfl, rfl, rfl⟩
  case body =>
    rintro l' pre x a' W hl' ⟨rr, hrr⟩ hI ⟨⟨ts⟩, rfl, hs, h5, h6, h7, h8'⟩ hlt
    match ts, hs with
    | u0 :: u1 :: u2 :: u3 :: u4 :: u5 :: u6 :: u7 :: u8 :: u9 :: u10 :: u11 :: u12 :: u13 :: u14 :: u15 :: u16 :: u17 :: u18 :: u19 :: u20 :: u21 :: u22 :: u23 :: u24 :: u25 :: u26 :: u27 :: u28 :: u29 :: u30 :: u31 :: u32 :: u33 :: u34 :: u35 :: u36 :: u37 :: u38 :: u39 :: u40 :: u41 :: u42 :: u43 :: u44 :: u45 :: u46 :: u47 :: u48 :: u49 :: u50 :: u51 :: u52 :: u53 :: u54 :: u55 :: u56 :: u57 :: u58 :: u59 :: u60 :: u61 :: u62 :: u63 :: u64 :: u65 :: u66 :: u67 :: u68 :: u69 :: u70 :: u71 :: u72 :: u73 :: u74 :: [], _ =>
    have e5 : u5 = ptr s := h5
    have e6 : u6 = ptr (s + 2) := h6
    have e7 : u7 = .int .i64 ((min x.1 (m - 1) : Nat) : Int) := h7
    have e8 : u8 = .int .i64 (x.2 : Int) := h8'
    subst e5 e6 e7 e8
    clear h5 h6 h7 h8'
    have HI := Lib.hid hI
    obtain ⟨v, hv, ho⟩ := hI.own
    obtain ⟨A3, c3, rfl⟩ := own_shape ho
    have q0 := hv.cell 0
    have q0f := hv.frozen
    simp at q0
    have hlB := hv.lt
    have hsW := hI.fr.size
    have hX0 := own_fr ho ((Fr.refl [] W).alloc (.cells #[.int .i64 (x.2 : Int), .int .i64 3] 61)) (by simp)
    have HV := Lib.hid hv
    have HX := Lib.hid hX0
    have HN2 := Lib.hid (news2 (x := .int .i64 (x.2 : Int)) (y := .int .i64 3) ((Blk.new W 61 #[.int .i64 (x.2 : Int), .int .i64 3]).cell 0) ((Blk.new W 61 #[.int .i64 (x.2 : Int), .int .i64 3]).cell 1))
    have hmx : min x.1 (m - 1) < m := by have := H1.out; omega
    have HLW := Lib.hid hlt
    have HMX := Lib.hid hmx
    have hm1 : pre.length + 1 ≤ maxLen := by simp only [maxLen]; omega
    have hm2 : (pre.length + 1) * 16 ≤ 140737488355328 := by omega
    clear hI hv ho hX0 hlt
    gi_wp2_with (refine wpListIn_append_own _ rfl (.tmp 31) (.tmp 34) 62 rfl w.heap.size 61 i0 (.agg #[.int .i64 0, .int .i64 0]) 2 16 Try.underlying62 hi0 hz0 hz1 hz2 rfl (by decide) _ _ _ rfl HX.out ⟨W.heap.size, 0, none⟩ 1 1 [.int .i64 (x.2 : Int), .int .i64 3] rfl rfl HN2.out (by simp [Value.oneCell']) hm1 hm2 (by simp; omega) ?_; intro x' w4 hox4 hgx4 _; obtain ⟨A4, c4, rfl⟩ := own_shape hox4; obtain ⟨k1, k2, ⟨cs, k3, k4⟩, k5, k6, k7⟩ := NwI.app (y := x) HI.out HV.out HX.out hgx4; have q4 := k1.cell 0; have q4f := k1.frozen 0; have q5 := k2.cell 0; have q6 := (k3.cell (min x.1 (m - 1))).trans (k4 _ HMX.out); have q6f := k3.frozen (min x.1 (m - 1)); simp at q4 q5)
    obtain ⟨z1, z2, z3⟩ := NwI.put (y := x) (by omega) H1.out k1 k2 k3 k4 k5 k6 k7 hox4
    exact ⟨z1.from _, z2, z3⟩
  case done =>
    rintro D zs W hD rfl hI hK
    obtain ⟨v, hv, ho⟩ := hI.own
    have h2 := hI.hdr
    have hlen : (dlt t m 0).length = tot t m := dlt_len t m 0
    have hT1 : 1 ≤ tot t m := by
      obtain ⟨q, hq⟩ : ∃ q, t[0]? = some q := ⟨_, List.getElem?_eq_getElem (by have := HM.out; have := H1.out; omega)⟩
      obtain ⟨g1, g2, g3⟩ := ptOk_all HOk.out hq
      have h := tot_mono (t := t) (show 0 + 1 ≤ m from H1.out)
      rw [tot_succ] at h
      omega
    have hT2 := tot_le HOk.out m
    rw [show (dlt t m 0).length = ((dlt t m 0).map pgOf).length from (List.length_map _).symm] at ho
    obtain ⟨gP, cP, rfl, r1, r2, r3, r4⟩ := own_pb ho (by rw [List.length_map, hlen]; exact hT1)
    rw [List.length_map, hlen] at hv r2
    have hE : ∃ cs, Blk W (s + 1) 3 cs ∧ ∀ j, j < m → cs[j]? = some (.int .i64 (tot t (j + 1) : Int)) := by
      obtain ⟨cs, h3, h4⟩ := hI.ends
      exact ⟨cs, h3, fun j hj => by rw [h4 j hj, enF_dlt HOk.out HM.out m (Nat.le_refl _) j hj, if_pos hj]⟩
    obtain ⟨cs, h3, h4⟩ := hE
    have HN := Lib.hid (fun W => New_ok (tot t m) W hT1 (by omega))
    have HA := Lib.hid hv
    have HH := Lib.hid h2
    have HE := Lib.hid h3
    have HE4 := Lib.hid h4
    have HP := Lib.hid r4
    have HfW := Lib.hid hI.fr
    have HK := Lib.hid hK
    have HD := Lib.hid hD
    have q0 := hv.cell 0
    simp at q0
    have hbn : ∀ j, j < m → tot t j < tot t (j + 1) ∧ tot t (j + 1) ≤ cP ∧ rN t j ≤ 16 ∧ tot t (j + 1) - tot t j = rN t j ∧ tot t (j + 1) ≤ 128 := fun j hj => by
      obtain ⟨q, hq⟩ : ∃ q, t[j]? = some q := ⟨_, List.getElem?_eq_getElem (by have := HM.out; omega)⟩
      obtain ⟨g1, g2, g3⟩ := ptOk_all HOk.out hq
      have h := tot_mono (t := t) (show j + 1 ≤ m from hj)
      have h' := tot_succ t j
      omega
    have HB := Lib.hid hbn
    clear hI hv ho h2 h3 h4 r4 hK hT1 hT2 hlen hbn
    refine HK0.out _ _ ?_
    go_wp2_with (first
      | (go_at_call 29; refine (HN.out _).mono ?_; rintro e w4 ⟨rfl, hM4, hf4⟩; have kq := (((HH.out.fr hf4 (by simp)).alloc (.cells #[ptr (W.heap.size + 1), .slice none 0 0] 114))).cell 0; simp at kq)
      | fail)
    have HM4 := Lib.hid hM4
    have Hf4 := Lib.hid hf4
    have HSz := Lib.hid hf4.size
    have HL0 : Hid (NwL w4 (W.heap.size + 1) gP t 0 none 0 (w4.alloc (.cells #[ptr (W.heap.size + 1), .slice none 0 0] 114))) := Lib.hid ⟨Blk.new w4 114 _, World.ownsRow_nil _ _ _ _, (Fr.refl [] w4).alloc _⟩
    have HAr := Lib.hid (HA.out.fr hf4 (by simp))
    have HEr := Lib.hid (HE.out.fr hf4 (by simp))
    clear hM4 hf4
    go_loopg [12, 54] m (fun gg fr i wr => ∃ (j : Nat) (A : Option Addr) (c : Nat), j + gg = m ∧ i = .int .i64 (j : Int) ∧ fr = .int .i64 (tot t j : Int) ∧ NwL w4 (W.heap.size + 1) gP t j A c wr)
    case atStart => exact ⟨0, none, 0, by omega, rfl, rfl, HL0.out⟩
    case round =>
      obtain ⟨j, A5, c5, hj, rfl, rfl, hL⟩ := hrel
      have Hj := Lib.hid hj
      clear HL0 kq
      by_cases hlt : j < m
      · have hki : (j : Int) < (m : Int) := by omega
        obtain ⟨b1, b2, b3, b4, b5⟩ := HB.out j hlt
        obtain ⟨hb, ho, hf⟩ := hL
        have c0 := hb.cell 1
        have c00 := hb.cell 0
        simp at c0 c00
        have fz := hb.frozen 1
        have d0 := (HAr.out.fr hf (by simp)).cell 0
        simp at d0
        have d1 := ((HEr.out.fr hf (by simp)).cell j).trans (HE4.out j hlt)
        have hsl : ∀ wx, (Instr.slice 62 (.slice (some ⟨gP, 0, none⟩) (tot t m) cP) (some (.int .i64 (tot t j : Int))) (some (.int .i64 (tot t (j + 1) : Int))) (some (.int .i64 (tot t (j + 1) : Int)))).run Try.prog wx = .ok (.slice (some ⟨gP, tot t j * 2, none⟩) (rN t j) (rN t j)) wx := fun wx => by
          have := cut_pages gP (tot t m) cP (tot t j) (tot t (j + 1)) b1 b2 wx
          rwa [b4] at this
        have HV := Lib.hid (valsN_succ t gP j)
        have hwj : IntKind.i64.wrap ((j : Int) + 1) = (j : Int) + 1 := IntWalk.i64_in _ (by omega)
        have Hlt := Lib.hid hb.lt
        have hm1 : j + 1 ≤ maxLen := by simp only [maxLen]; omega
        have hm2 : (j + 1) * 24 ≤ 140737488355328 := by omega
        obtain ⟨V, hV⟩ : ∃ V, (Value.slice (some ⟨gP, tot t j * 2, none⟩) (rN t j) (rN t j)) = V := ⟨_, rfl⟩
        have hV1 : V.oneCell' = true := by rw [← hV]; rfl
        have hF3 : Fr [] wr (wr.alloc (.cells #[.slice (some ⟨gP, tot t j * 2, none⟩) (rN t j) (rN t j)] 62)).drew := ((Fr.refl [] wr).alloc _).drew
        have HF3 := Lib.hid hF3
        have HW2 := Lib.hid (own_fr ho hF3 (by simp))
        have c0a := ((Fr.refl [] wr).alloc (.cells #[.slice (some ⟨gP, tot t j * 2, none⟩) (rN t j) (rN t j)] 62)).cell_some c0 (by simp)
        have Hns := Lib.hid (news1 (((Blk.new wr 62 #[.slice (some ⟨gP, tot t j * 2, none⟩) (rN t j) (rN t j)]).drew).cell 0))
        have HBx := Lib.hid hb
        have HFx := Lib.hid hf
        have hbs : w4.heap.size + 1 ≤ ((wr.alloc (.cells #[.slice (some ⟨gP, tot t j * 2, none⟩) (rN t j) (rN t j)] 62)).drew).heap.size := by have := Hlt.out; show _ ≤ (wr.alloc _).heap.size; rw [World.size_alloc]; omega
        have hbt : wr.heap.size + 1 = ((wr.alloc (.cells #[.slice (some ⟨gP, tot t j * 2, none⟩) (rN t j) (rN t j)] 62)).drew).heap.size := by show _ = (wr.alloc _).heap.size; rw [World.size_alloc]
        clear hj hb hf ho hF3 b1 b2 b3 b4 hV hV1
        go_wp2_with fail
        refine wp_calm ?_
        go_region_law (first
          | (refine step_append_lies _ rfl (.tmp 62) (.tmp 68) 112 rfl (w4.heap.size + 1) 62 j0 (.slice none 0 0) 1 24 Try.underlying112 hj0 jz0 jz1 jz2 rfl (Nat.succ_pos 0) (.slice A5 j c5) j (valsN t gP j) (by simp [Act.eval]) HW2.out ⟨wr.heap.size, 0, none⟩ 1 1 [.slice (some ⟨gP, tot t j * 2, none⟩) (rN t j) (rN t j)] (by simp [Act.eval]) rfl Hns.out (by simp [Value.oneCell']) (Nat.succ_pos 0) hm1 hm2 hbs (wr.heap.size + 1) hbt.symm ?_
             intro g cc w6 ho4 hg4 hat4 hlt4
             have hB4 := (HBx.out.fr HF3.out (by simp)).fr (Fr.of_own hg4) (fun hk => by have := (own_blk HW2.out _ hk).1; omega)
             have hF4 : Fr [] w4 w6 := (HFx.out.trans HF3.out).step (Fr.of_own hg4) (fun j hj => .inr (by have := (own_blk HW2.out _ hj).1; omega))
             have hc4 := hB4.cell 1
             have hfz4 := hB4.frozen 1
             simp at hc4)
          | fail)
        all_goals
          have HL5 : Hid (NwL w4 (W.heap.size + 1) gP t (j + 1) (some ⟨g, 0, none⟩) cc (w6.setCell ⟨w4.heap.size, 1, none⟩ (.slice (some ⟨g, 0, none⟩) (j + 1) cc))) := Lib.hid ⟨hB4.set_ 1 _, by
            rw [HV.out]
            exact own_fr ho4 ((Fr.refl [w4.heap.size] w6).setCell (p := ⟨w4.heap.size, 1, none⟩) (.inl (by simp)) _) (fun j hj cs hbj => by
              simp at hj
              subst hj
              exact absurd (hB4.eq hbj).1 (by decide)), hF4.setCell (p := ⟨w4.heap.size, 1, none⟩) (.inr (Nat.le_refl _)) _⟩
          clear ho4 hg4 hat4 hlt4 hB4 hF4 hc4 hfz4
          go_wp2_with fail
          go_roundg (m - (j + 1))
          case measure => have := Hj.out; omega
          case rel => exact ⟨j + 1, some ⟨g, 0, none⟩, cc, by have := Hj.out; omega, by go_num, rfl, HL5.out⟩
      · have hki : ¬ (j : Int) < (m : Int) := by omega
        obtain rfl : j = m := by omega
        have hFz := hL.fr
        have hbl := hL.hb.lt
        obtain ⟨g', hS, hg'⟩ := hL.done HOk.out HM.out H1.out h8 HM4.out (HP.out.fr Hf4.out (by simp))
        have HS := Lib.hid hS
        have HFz := Lib.hid hFz
        clear hL hj hS hFz
        go_wp2_with fail
        have hKr : wr.heap[D]? = some (.deferred (some [])) := by
          have h1 := (Hf4.out.block D (Array.getElem?_eq_some_iff.1 HK.out).1 (by simp)).trans HK.out
          exact (HFz.out.block D (Array.getElem?_eq_some_iff.1 h1).1 (by simp)).trans h1
        have hD := HD.out
        have hFd : Fr [D] wr (wr.putObj D (.deferred none)) := Fr.of_grown (S := [D]) (grownBy_putObj' wr D _) (fun k e => by cases e; simp)
        have hfw : Fr [] w wr := (HfW.out.trans Hf4.out).trans HFz.out
        have hw0 := hfw.size
        have hn := HS.out.ne
        have hb := HS.out.blks
        refine ⟨by simp, .inl ⟨_, _, rfl, run_takeDeferred hKr, ?_⟩⟩
        refine ⟨.tuple #[ptr w4.heap.size, .int .i64 0], by simp [results, Try.f13, go_sem], ?_⟩
        rw [← HPo.out]
        have hDn : NoT 61 wr [D] := fun k hk cs mk he => by
          simp at hk
          subst hk
          rw [hKr] at he
          cases he
        have hd : ∀ {k : Nat} {t : TypeId} {cs : Array Value}, Blk wr k t cs → k ≠ D := fun {k t cs} hk e => by
          subst e
          unfold Blk at hk
          rw [hKr] at hk
          cases hk
        obtain ⟨⟨c1, g1⟩, ⟨c2, g2⟩, ⟨c3, g3⟩, ⟨c4, g4⟩⟩ := hb
        have hz4 := HSz.out
        have hzW := HfW.out.size
        exact ⟨_, _, _, _, rfl, HS.out.fr hFd (by simpa using hd g1) (by simpa using hd g2) (by simpa using hd g3) (by simpa using hd g4) hDn, hfw.putDef (by omega) hKr, by omega, by omega, by omega, by omega⟩
  case stop =>
    rintro D c pre W hD hpre ⟨⟩
end Go.Proofs.Ytonongaakieciaa

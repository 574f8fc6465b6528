/- The program's Write. The program's Load. The program's Store. -/
import Derived.Test.YtbmaecdlkchkeaaGreatDoorW10
namespace Go.Proofs.YtbmaecdlkchkeaaGreatDoor
open Go.RowKit Go.Shelf
attribute [local go_sem] Oper.semAt_some
set_option linter.unusedVariables false
set_option maxRecDepth 100000
set_option linter.unusedSimpArgs false
theorem wrB_snoc (t : List Pg) : ∀ (s : List UInt8) (b : Nat → UInt8) (a : Int) (c : UInt8), wrB t b a (s ++ [c]) = upd (wrB t b a s) (loc t (a + (s.length : Int))) c := by
  intro s
  induction s with
  | nil => intro b a c; simp [wrB]
  | cons d s ih =>
    intro b a c
    rw [List.cons_append, wrB, ih, wrB]
    congr 2
    simp only [List.length_cons]
    omega
theorem MemAt.put1 {w : World} {p F : Nat} {st : St} (h : MemAt w p F st) (k : Nat) (c : UInt8) : MemAt (w.setCell ⟨F, k, none⟩ (.int .u8 (c.toNat : Int))) p F ⟨st.n, upd st.b k c⟩ := by
  obtain ⟨cs, hb, hs⟩ := h.says
  exact MemAt.of (h.hd.fr ((Fr.refl [F] w).setCell (.inl (by simp)) _) (by simpa using h.ne)) (hb.set_ k _) (hs.upd k c)
theorem Fr.putDef' {w W : World} {D : Nat} {o o' : Obj} (h : Fr [D] w W) (hK : W.heap[D]? = some o) : Fr [D] w (W.putObj D o') :=
  h.trans (Fr.of_grown (S := [D]) (grownBy_putObj' W D o') (fun k e => by cases e; simp))
/-- A pointer to a place. -/
def pv (F : Nat) {N : Nat} : Yb N → Value
  | .ok j _ => .pointer (some ⟨F, j, none⟩)
  | .bad _ _ => .pointer none
/-- The invariant of Write's first loop. -/
structure WrI (w : World) (n F : Nat) (s2 : Nat) (pre : List (Yb (n * 256))) (W : World) : Prop where
  own : ∃ v, Blk W s2 151 #[v] ∧ W.ownsRow w.heap.size 118 1 v pre.length (pre.map (pv F))
  ok : allOk pre
  b1 : Blk W w.heap.size 22 #[.int .i64 0]
  fr : Fr [] w W
  sz : s2 + 6 ≤ W.heap.size
  bx : BxB W (s2 + 1)
theorem WrI.from_ {w : World} {n F s2 B : Nat} (hB : w.heap.size ≤ B) : OwnFrom B (WrI w n F s2) := by
  rintro pre W W' row ⟨⟨v, hv, ho⟩, h2, h4, h5, h6, h7⟩ hg hr
  exact ⟨⟨v, blk_grown hv hg hr, own_grown ho hg hr⟩, h2, blk_grown h4 hg hr, ownFrom_fr (β := Unit) hB () W W' row h5 hg hr, Nat.le_trans h6 hg.size, fun k hk => by obtain ⟨t, cs, hb, h1⟩ := h7 k hk; exact ⟨t, cs, blk_grown hb hg hr, h1⟩⟩
/-- Write's loop has been left at an error. -/
def WrX (w : World) (n : Nat) (c : Code) (pre : List (Yb (n * 256))) (W : World) : Prop :=
  ∃ pre' e he, c = .ret ∧ pre = pre' ++ [.bad e he] ∧ Blk W w.heap.size 22 #[.int .i64 e] ∧ Fr [] w W
theorem WrX.from_ {w : World} {n B : Nat} {c : Code} (hB : w.heap.size ≤ B) : OwnFrom B (WrX w n c) := by
  rintro pre W W' row ⟨pre', e, he, h1, h2, h4, h5⟩ hg hr
  exact ⟨pre', e, he, h1, h2, blk_grown h4 hg hr, ownFrom_fr (β := Unit) hB () W W' row h5 hg hr⟩
def WrA (w : World) (n F s2 : Nat) (x : Yb (n * 256)) (a' : Act) (W : World) : Prop :=
  ∃ ts : Array Value, a' = { tmps := ts, defers := [] } ∧ ts.size = 52 ∧ ts.getD 8 undef = ptr w.heap.size ∧ ts.getD 10 undef = ptr s2 ∧ ts.getD 11 undef = (yenc F x).getD 0 undef ∧ ts.getD 12 undef = (yenc F x).getD 1 undef
/-- What an append of a pointer keeps. -/
theorem WrI.appended {w W w'' : World} {n F s2 : Nat} {pre : List (Yb (n * 256))} {v x' : Value} {j : Nat} {hj : j < n * 256} (hI : WrI w n F s2 pre W) (hv : Blk W s2 151 #[v]) (hs : w.heap.size + 1 ≤ s2)
    (hX : (W.alloc (.cells #[.pointer (some ⟨F, j, none⟩)] 118)).ownsRow w.heap.size 118 1 v pre.length (pre.map (pv F)))
    (ho : w''.ownsRow w.heap.size 118 1 x' (pre.length + 1) (pre.map (pv F) ++ [.pointer (some ⟨F, j, none⟩)])) (hg : (W.alloc (.cells #[.pointer (some ⟨F, j, none⟩)] 118)).grownBy w'' v.ownBlock) :
    WrI w n F s2 (pre ++ [.ok j hj]) (w''.setCell ⟨s2, 0, none⟩ x') ∧ KeepsOthers W (w''.setCell ⟨s2, 0, none⟩ x') ∧ KpB w.heap.size [s2 + 4, s2 + 3, s2 + 2, s2 + 5, s2 + 1] W (w''.setCell ⟨s2, 0, none⟩ x') ∧ (∃ vq, Blk w'' s2 151 #[vq]) := by
  have hsz := hI.sz
  have hbl := own_blk hX
  have hf : Fr v.ownBlock.toList (W.alloc (.cells #[.pointer (some ⟨F, j, none⟩)] 118)) w'' := Fr.of_own hg
  have hfW : Fr [] W (W.alloc (.cells #[.pointer (some ⟨F, j, none⟩)] 118)) := (Fr.refl [] W).alloc _
  have hne : ∀ {k t cs}, Blk W k t cs → t ≠ 118 → k ∉ v.ownBlock.toList := by
    intro k t cs hb ht hm
    obtain ⟨_, cs', hb'⟩ := hbl k hm
    exact ht ((hb.fr hfW (by simp)).eq hb').1
  have hK : KeepsOthers W w'' := KeepsOthers.trans (KeepsOthers.of_fr hfW (by simp)) (KeepsOthers.of_fr hf (fun k hk => by obtain ⟨_, cs, hb⟩ := hbl k hk; exact ⟨118, cs, hb⟩))
  have hKp : KpB w.heap.size [s2 + 4, s2 + 3, s2 + 2, s2 + 5, s2 + 1] W w'' := by
    refine kpB_t (KpB.of_fr hfW (by have := hI.fr.size; omega) (by simp) (fun k hk => by simp at hk; omega)) (KpB.of_fr hf (by have := hI.fr.size; simp; omega) (fun k hk => ⟨(hbl k hk).1, fun hm => ?_⟩) (fun k hk => by simp at hk ⊢; omega))
    obtain ⟨_, cs, hb⟩ := hbl k hk
    obtain ⟨t, cs', hb', h1⟩ := hI.bx k hm
    have := ((hb'.fr hfW (by simp)).eq hb).1
    subst this
    revert h1
    decide
  have hv2 : Blk w'' s2 151 #[v] := (hv.fr hfW (by simp)).fr hf (hne hv (by decide))
  have hb1 : Blk w'' w.heap.size 22 #[.int .i64 0] := (hI.b1.fr hfW (by simp)).fr hf (hne hI.b1 (by decide))
  have hK2 : KpB w.heap.size [s2 + 4, s2 + 3, s2 + 2, s2 + 5, s2 + 1] W (w''.setCell ⟨s2, 0, none⟩ x') := kpB_t hKp ⟨(Below.refl _ _).setCell (by simp; omega) _, fun k hk => Below.heap_setCell _ _ _ _ (by simp at hk; simp; omega)⟩
  refine ⟨⟨⟨x', hv2.set_ 0 _, ?_⟩, ?_, hb1.far (by simp; omega) _, ((hI.fr.trans hfW).own hX hg).setCell (.inr (by simp; omega)) _, by have := hf.size; simp [World.setCell] at this ⊢; omega, hI.bx.kp hK2.2⟩, hK.trans (KeepsOthers.setCell _ _ _), hK2, v, hv2⟩
  · rw [List.length_append, List.map_append]
    exact own_fr ho ((Fr.refl [s2] w'').setCell (.inl (by simp)) _) (fun k hk cs hb => by simp at hk; subst hk; exact absurd (hb.eq hv2).1 (by decide))
  · intro y hy
    rcases List.mem_append.1 hy with hy | hy
    · exact hI.ok y hy
    · exact ⟨j, hj, by simpa using hy⟩
theorem Tryz.info118 : (Tryz.prog.info? 118).map (fun i => (i.zero, i.size, i.bytes)) = some (some (.pointer none), 1, 8) := by kernel_rfl
def WriteM (w : World) (p F : Nat) (st : St) (t : List Pg) (a : Int) (s : ByteArray) (e : Ending) (w' : World) : Prop :=
  e = .returned (.int .i64 (thr t 2 a s.size)) ∧ MemAt w' p F (if thr t 2 a s.size = 0 then ⟨st.n, wrB t st.b a s.data.toList⟩ else st) ∧ Fr [F] w w'
set_option maxRecDepth 100000 in
set_option maxHeartbeats 4000000 in
theorem Write_main (b p F m cap : Nat) (st : St) (A : Option Addr) (t : List Pg) (a : Int) (s : ByteArray) (w : World) (ht : Tb w b (.slice A m cap) t) (h : MemAt w p F st) (hT : okT st.n t = true) (hn : s.size ≤ 4096) (ha : a ≤ 9223372036854775807) (hbw : b < w.heap.size) :
    Calls Tryz.prog 78 #[ptr p, .slice A m cap, .int .i64 a, .string s] w (WriteM w p F st t a s) := by
  have Hc := Lib.hid fun w ht h => Check_ok b p F st.n m cap A t w ht h hT
  have H := Lib.hid ht
  have HM := Lib.hid h
  have HT := Lib.hid hT
  have Hm := Lib.hid ht.n_eq
  have hpw := h.hd.lt
  have hFw := h.ltF
  obtain ⟨i0, hi0, hz0, hz1, hz2⟩ := info3 Tryz.info118
  clear h ht hT
  obtain ⟨Po, hPo⟩ : ∃ Po, WriteM w p F st t a s = Po := ⟨_, rfl⟩
  rw [hPo]
  have HPo := Lib.hid hPo
  clear hPo
  obtain ⟨N, hN⟩ : ∃ N, s.size = N := ⟨_, rfl⟩
  rw [hN] at hn
  have d1 : decide ((4096 : Int) < (N : Int)) = false := by rw [decide_eq_false_iff_not]; omega
  have HN := Lib.hid hN
  refine (callsIn_wide (n := 3)).1 ?_
  refine callsIn_of_wp_marks Tryz.func78 rfl trivial (wpIn_wide.2 ?_)
  simp only [Tryz.ntmps78, List.size_toArray, List.length_cons, List.length_nil, Nat.reduceAdd, Nat.reduceSub, Array.replicate_succ, Array.replicate_zero, List.push_toArray, List.append_toArray, List.nil_append, List.cons_append]
  go_wp2_with (first
    | (go_at_call 77; go_must ((with_reducible refine (Hc.out _ (H.out.fr ((Fr.refl [] _).alloc _) (by simp)) (HM.out.hd.fr ((Fr.refl [] _).alloc _) (by simp))).mono ?_); rintro e w1 ⟨rfl, hf1⟩))
    | (go_at_call 79; go_must (refine ((callsIn_wide (n := 3)).1 (bytes_in Fence.wide 3 trivial rfl p m cap A a N _ _)).mono ?_; rintro e w' ⟨rfl, rfl⟩))
    | fail)
  have hf0 : Fr [] w w1 := ((Fr.refl [] w).alloc _).trans hf1
  have bR1 := (Blk.new w 22 #[.int .i64 0]).fr hf1 (by simp)
  have hsz1 := hf1.size
  simp only [World.size_alloc] at hsz1
  generalize hs2 : w1.heap.size = s2 at *
  have bB : Blk (w1.alloc (.cells #[.slice none 0 0] 151)) s2 151 #[.slice none 0 0] := by
    have h1 := Blk.new w1 151 #[.slice none 0 0]
    rwa [hs2] at h1
  have bR1 := bR1.alloc (.cells #[.slice none 0 0] 151)
  have hf2 := hf0.alloc (.cells #[.slice none 0 0] 151)
  have hsz2 : (w1.alloc (.cells #[.slice none 0 0] 151)).heap.size = s2 + 1 := by simp [hs2]
  generalize w1.alloc (.cells #[.slice none 0 0] 151) = w2 at *
  clear hf1 hf0
  obtain ⟨hBx, hBB⟩ := boxes5 w2 (s2 + 1) hsz2 p m cap N A a 2
  have hI0 : WrI w st.n F s2 [] (((((w2.alloc (.cells #[ptr p] 41)).alloc (.cells #[.slice A m cap] 43)).alloc (.cells #[.int .i64 a] 3)).alloc (.cells #[.int .i64 N] 3)).alloc (.cells #[.int .i64 2] 3)) :=
    ⟨⟨_, ((((bB.alloc _).alloc _).alloc _).alloc _).alloc _, World.ownsRow_nil _ _ _ _⟩, (fun x hx => by cases hx), ((((bR1.alloc _).alloc _).alloc _).alloc _).alloc _, ((((hf2.alloc _).alloc _).alloc _).alloc _).alloc _, by simp only [World.size_alloc, hsz2]; omega, hBB⟩
  have hsz0 := hI0.sz
  have hszE : (((((w2.alloc (.cells #[ptr p] 41)).alloc (.cells #[.slice A m cap] 43)).alloc (.cells #[.int .i64 a] 3)).alloc (.cells #[.int .i64 N] 3)).alloc (.cells #[.int .i64 2] 3)).heap.size = s2 + 6 := by simp only [World.size_alloc, hsz2]
  obtain ⟨W0, hW0⟩ : ∃ W0, ((((w2.alloc (.cells #[ptr p] 41)).alloc (.cells #[.slice A m cap] 43)).alloc (.cells #[.int .i64 a] 3)).alloc (.cells #[.int .i64 N] 3)).alloc (.cells #[.int .i64 2] 3) = W0 := ⟨_, rfl⟩
  rw [hW0] at hBx hI0 hsz0 hszE ⊢
  clear hW0 bB bR1 hf2 hBB
  have hfW := hI0.fr
  refine (wpIn_wide (n := 3)).1 ?_
  refine wpIn_rangeFunc_ownH rfl (by omega) (gf := 99) (lb := #[ptr (s2 + 4), ptr (s2 + 3), ptr (s2 + 2), ptr (s2 + 5), ptr (s2 + 1)]) rfl trivial (enters_of Tryz.func99 (by kernel_rfl) rfl)
    (bytes_stops Fence.wide (3 - 1) trivial rfl (by omega) (s2 + 4) (s2 + 3) (s2 + 2) (s2 + 5) (s2 + 1) w.heap.size N m cap b p F st.n A a 2 t HT.out Hm.out hn ha W0 hBx (H.out.fr hfW (by simp)) hbw (HM.out.hd.fr hfW (by simp)) hpw (by omega)) kpB_t (kpB_b (by omega) (by simp; omega)) (Below.refl _ _) (fun x => yenc_size F x)
    (WrI w st.n F s2) (WrX w st.n) (WrI.from_ (by omega)) (fun c => WrX.from_ (by omega)) hI0
    (WrA w st.n F s2) (fun x a' => fun _ X Y row hs hg hr => hs)
    ?assign ?body ?done ?stop
  case assign =>
    rintro l' pre x W K hI hK
    cases x with
    | ok j hj =>
      unfold yenc
      gi_wp2
      exact hK _ _ (KeepsFrom.refl _ _) (KpB.refl _ _ _) hI ⟨_, rfl, rfl, rfl, rfl, rfl, rfl⟩
    | bad e he =>
      unfold yenc
      gi_wp2
      exact hK _ _ (KeepsFrom.refl _ _) (KpB.refl _ _ _) hI ⟨_, rfl, rfl, rfl, rfl, rfl, rfl⟩
  case body =>
    rintro l' pre x a' W hl' ⟨rr, hrr⟩ hI ⟨⟨ts⟩, rfl, hs, h8, h10, h11, h12⟩ hlt
    match ts, hs with
    | u0 :: u1 :: u2 :: u3 :: u4 :: u5 :: u6 :: u7 :: u8 :: u9 :: u10 :: u11 :: u12 :: u13 :: u14 :: u15 :: u16 :: u17 :: u18 :: u19 :: u20 :: u21 :: u22 :: u23 :: u24 :: u25 :: u26 :: u27 :: u28 :: u29 :: u30 :: u31 :: u32 :: u33 :: u34 :: u35 :: u36 :: u37 :: u38 :: u39 :: u40 :: u41 :: u42 :: u43 :: u44 :: u45 :: u46 :: u47 :: u48 :: u49 :: u50 :: u51 :: [], _ =>
    have e8 : u8 = ptr w.heap.size := h8
    have e10 : u10 = ptr s2 := h10
    subst e8
    subst e10
    clear h8 h10
    have HI := Lib.hid hI
    have hsW := hI.sz
    cases x with
    | ok j hj =>
      have e11 : u11 = .pointer (some ⟨F, j, none⟩) := h11
      have e12 : u12 = .int .i64 0 := h12
      subst e11
      subst e12
      clear h11 h12
      obtain ⟨v, hv, ho⟩ := hI.own
      obtain ⟨A3, c3, rfl⟩ := own_shape ho
      have q10 := hv.cell 0
      have q10f := hv.frozen
      simp at q10
      have hlB := hv.lt
      have hX0 := own_fr ho ((Fr.refl [] W).alloc (.cells #[.pointer (some ⟨F, j, none⟩)] 118)) (by simp)
      have HV := Lib.hid hv
      have HX := Lib.hid hX0
      clear hI hv ho
      gi_wp2_with ((refine wpListIn_append_own _ rfl (.tmp 35) (.tmp 37) 151 rfl w.heap.size 118 i0 (.pointer none) 1 8 Tryz.underlying151 hi0 hz0 hz1 hz2 rfl (by decide) _ _ _ rfl HX.out ⟨W.heap.size, 0, none⟩ 1 1 [.pointer (some ⟨F, j, none⟩)] rfl rfl (news1 ((Blk.new W 118 #[.pointer (some ⟨F, j, none⟩)]).cell 0)) (by simp [Value.oneCell']) (by simp only [maxLen]; omega) (by omega) (by simp; omega) ?_; intro x' w4 hox4 hgx4 _; obtain ⟨k1, k2, k3, vq, k4⟩ := WrI.appended (hj := hj) HI.out HV.out (by omega) HX.out hox4 hgx4; obtain ⟨A4, c4, rfl⟩ := own_shape hox4; have q4 := k4.cell 0; have q4f := k4.frozen; simp at q4))
      exact ⟨k2.from _, k3, k1⟩
    | bad e he =>
      have e11 : u11 = .pointer none := h11
      have e12 : u12 = .int .i64 e := h12
      subst e11
      subst e12
      clear h11 h12
      have q1 := hI.b1.cell 0
      have q1f := hI.b1.frozen
      simp at q1
      have he0 : (e != 0) = true := by rw [bne_iff_ne]; omega
      have HE := Lib.hid he
      clear hI
      gi_wp2
      have hI := HI.out
      exact ⟨(KeepsOthers.setCell _ _ _).from _, pre, e, HE.out, rfl, rfl, hI.b1.set_ 0 _, hI.fr.setCell (.inr (by simp)) _⟩
  case done =>
    rintro D zs W hD rfl hI hK
    obtain ⟨hok, hyl⟩ := yl_done HT.out hI.ok
    have hth := thr_zero hok
    obtain ⟨v, hv, ho⟩ := hI.own
    rw [hyl, ytk_len] at ho
    obtain ⟨A3, c3, rfl⟩ := own_shape ho
    have q10 := hv.cell 0
    simp at q10
    have hlB := hv.lt
    have hM0 := HM.out.to hI.fr (by simp) (by simp)
    have hsW := hI.sz
    have HI := Lib.hid hI
    have HV := Lib.hid hv
    have HO := Lib.hid ho
    have Hok := Lib.hid hok
    have HK := Lib.hid hK
    have HTh := Lib.hid hth
    have HM0 := Lib.hid hM0
    have hDW : D < W.heap.size := (Array.getElem?_eq_some_iff.1 hK).1
    clear hI hv ho hok hyl hth hK hM0
    go_wp2
    go_loopg [41] N (fun gg i wr => ∃ k : Nat, k + gg = N ∧ i = .int .i64 k ∧ MemAt wr p F ⟨st.n, wrB t st.b a (s.data.toList.take k)⟩ ∧ Fr [F] W wr)
    case atStart => exact ⟨0, by omega, rfl, HM0.out, Fr.refl _ _⟩
    case round =>
      obtain ⟨k, hk, rfl, hM, hf⟩ := hrel
      have Hk := Lib.hid hk
      have HMk := Lib.hid hM
      have Hf := Lib.hid hf
      by_cases hlt : k < N
      · have hki : (k : Int) < (N : Int) := by omega
        have hks : k < s.size := by have := HN.out; omega
        obtain ⟨c, hc⟩ : ∃ c, s.data.toList[k]? = some c := ⟨_, List.getElem?_eq_getElem (by simpa using hks)⟩
        have c0 : s[k] = c := by
          have h2 := (List.getElem?_eq_some_iff.1 hc).2
          have h3 : s[k] = s.data[k] := rfl
          rw [h3]
          simpa using h2
        have hch := Hok.out k hlt
        have hll := loc_lt HT.out hch
        obtain ⟨g, cp, cs, e1, _, _, _, hbg, hcs⟩ : ∃ g cap cs, Value.slice A3 N c3 = .slice (some ⟨g, 0, none⟩) N cap ∧ w.heap.size ≤ g ∧ N ≤ cap ∧ True ∧ Blk W g 118 cs ∧ ∀ (j : Nat) (u : Value), ((ytk (st.n * 256) t 2 a N).map (pv F))[j]? = some u → cs[j]? = some u := by
          rcases HO.out.2 with ⟨_, h2⟩ | ⟨g, cap, cur, h1, hb, hh, h3, h4, h5, h6⟩
          · omega
          · refine ⟨g, cap, cur, h1, hb, h3, trivial, hh, fun j u hu => ?_⟩
            rw [← h6, List.getElem?_take] at hu
            split at hu
            · simpa using hu
            · cases hu
        injection e1 with e1 _ e2
        subst e1
        subst e2
        have hpk : W.cell? ⟨g, k, none⟩ = some (.pointer (some ⟨F, loc t (a + (k : Int)), none⟩)) := by
          rw [hbg.cell]
          refine hcs k _ ?_
          rw [List.getElem?_map, ytk_at hlt, y1_of HT.out hch]
          rfl
        have hgF : g ≠ F := by
          obtain ⟨_, _, hbF, _⟩ := HM0.out
          exact hbg.ne_ hbF (by decide)
        have hpk2 : wr.cell? ⟨g, k, none⟩ = some (.pointer (some ⟨F, loc t (a + (k : Int)), none⟩)) := hf.cell_some hpk (by simpa using hgF)
        have hcF := hM.cell (j := loc t (a + (k : Int))) hll
        have hfz := hM.frozen (loc t (a + (k : Int)))
        have HS : Hid (MemAt (wr.setCell ⟨F, loc t (a + (k : Int)), none⟩ (.int .u8 (c.toNat : Int))) p F ⟨st.n, wrB t st.b a (s.data.toList.take (k + 1))⟩) := by
          refine Lib.hid ?_
          have h1 := hM.put1 (loc t (a + (k : Int))) c
          rw [List.take_add_one, hc, Option.toList_some, wrB_snoc, List.length_take_of_le (by have : s.data.toList.length = s.size := rfl; omega)]
          exact h1
        have HF2 : Hid (Fr [F] W (wr.setCell ⟨F, loc t (a + (k : Int)), none⟩ (.int .u8 (c.toNat : Int)))) := Lib.hid (hf.setCell (.inl (by simp)) _)
        clear hM hf hk hpk hbg hcs hch hc
        generalize loc t (a + (k : Int)) = L at *
        go_wp2
        go_roundg (N - (k + 1))
        case measure => have := Hk.out; omega
        case rel => exact ⟨k + 1, by have := Hk.out; omega, by go_num, HS.out, HF2.out⟩
      · have hkN : k = N := by omega
        have hki : ¬ (k : Int) < (N : Int) := by omega
        have hI := HI.out
        have bR1 : Blk wr w.heap.size 22 #[.int .i64 0] := hI.b1.fr hf (by simp; omega)
        have q1 := bR1.cell 0
        have q1f := bR1.frozen
        simp at q1
        have hKr : wr.heap[D]? = some (.deferred (some [])) := (hf.block D hDW (by simp; omega)).trans HK.out
        have HKr := Lib.hid hKr
        have HbR1 := Lib.hid bR1
        have HkN := Lib.hid hkN
        clear hM hf hk hI hKr bR1 hkN
        go_wp2
        have hf3 : Fr [F] w (wr.setCell ⟨w.heap.size, 0, none⟩ (.int .i64 0)) := ((HI.out.fr.mono (by simp)).trans Hf.out).setCell (.inr (by simp)) _
        have hK3 := (KeepsOthers.setCell wr ⟨w.heap.size, 0, none⟩ (.int .i64 0)).same D _ HKr.out rfl
        have bR1 := HbR1.out.set_ 0 (.int .i64 0)
        have hM3 := HMk.out.to ((Fr.refl [w.heap.size] wr).setCell (p := ⟨w.heap.size, 0, none⟩) (.inl (by simp)) (.int .i64 0)) (by simp; omega) (by simp; omega)
        generalize wr.setCell ⟨w.heap.size, 0, none⟩ (.int .i64 0) = W3 at *
        refine ⟨by simp, .inl ⟨_, _, rfl, run_takeDeferred hK3, ?_⟩⟩
        have c1 := (ownFrom_blk (β := Unit) D _ 22 (fun _ => _) () W3 (W3.putObj D (.deferred none)) (some D) bR1 (grownBy_putObj' W3 D _) (fun r e => by cases e; exact ⟨Nat.le_refl _, _, hK3, rfl⟩)).cell 0
        simp at c1
        refine ⟨.int .i64 0, by simp [results, Tryz.f78, go_sem, c1], ?_⟩
        rw [← HPo.out]
        refine ⟨?_, ?_, hf3.putDef (by omega) hK3⟩
        · rw [HN.out, HTh.out]
        · rw [HN.out, HTh.out, if_pos rfl]
          have hM4 := hM3.to ((Fr.refl [D] W3).putDef' (o' := .deferred none) hK3) (by simp; omega) (by simp; omega)
          rw [HkN.out, List.take_of_length_le (by have : s.data.toList.length = s.size := rfl; have := HN.out; omega)] at hM4
          exact hM4
  case stop =>
    rintro D c pre W hD hpre ⟨pre', e, he, rfl, rfl, bR1, hfr⟩ hK
    have hth := yl_stop HT.out hpre
    have q1 := bR1.cell 0
    simp at q1
    have HFin := Lib.hid hth
    have HHe := Lib.hid he
    clear hth hpre
    refine (wpIn_wide (n := 3)).2 ?_
    go_wp2
    refine ⟨by simp, .inl ⟨_, _, rfl, run_takeDeferred hK, ?_⟩⟩
    have c1 := (ownFrom_blk (β := Unit) D _ 22 (fun _ => _) () W (W.putObj D (.deferred none)) (some D) bR1 (grownBy_putObj' W D _) (fun r e => by cases e; exact ⟨Nat.le_refl _, _, hK, rfl⟩)).cell 0
    simp at c1
    refine ⟨.int .i64 e, by simp [results, Tryz.f78, go_sem, c1], ?_⟩
    rw [← HPo.out]
    have hf4 : Fr [] w (W.putObj D (.deferred none)) := hfr.putDef (by omega) hK
    refine ⟨?_, ?_, hf4.mono (by simp)⟩
    · rw [HN.out, HFin.out]
    · rw [HN.out, HFin.out, if_neg (by have := HHe.out; omega)]
      exact HM.out.to hf4 (by simp) (by simp)
/-- What Write tells. -/
def wrE (st : St) (t : List Pg) (a : Int) (s : ByteArray) : Int := if okT st.n t = false then 84 else if 4096 < s.size then 80 else thr t 2 a s.size
/-- What Write leaves. -/
def wrS (st : St) (t : List Pg) (a : Int) (s : ByteArray) : St := if wrE st t a s = 0 then ⟨st.n, wrB t st.b a s.data.toList⟩ else st
def WriteP (w : World) (p F : Nat) (st : St) (t : List Pg) (a : Int) (s : ByteArray) (e : Ending) (w' : World) : Prop :=
  e = .returned (.int .i64 (wrE st t a s)) ∧ MemAt w' p F (wrS st t a s) ∧ Fr [F] w w'
theorem MWrite_any (b p F m cap : Nat) (st : St) (A : Option Addr) (t : List Pg) (a : Int) (s : ByteArray) (w : World) (ht : Tb w b (.slice A m cap) t) (h : MemAt w p F st) (ha : a ≤ 9223372036854775807) (hbw : b < w.heap.size) :
    Calls Tryz.prog 78 #[ptr p, .slice A m cap, .int .i64 a, .string s] w (WriteP w p F st t a s) := by
  cases hT : okT st.n t with
  | false =>
    refine (Write_no b p F m cap st A t a s w ht h hT).mono fun e w' ⟨he, hf⟩ => ?_
    have e0 : wrE st t a s = 84 := by unfold wrE; rw [if_pos hT]
    refine ⟨by rw [he, e0], ?_, hf.mono (by simp)⟩
    unfold wrS
    rw [e0, if_neg (by omega)]
    exact h.to hf (by simp) (by simp)
  | true =>
    by_cases hs : 4096 < s.size
    · refine (Write_long b p F m cap st A t a s w ht h hT hs).mono fun e w' ⟨he, hf⟩ => ?_
      have e0 : wrE st t a s = 80 := by unfold wrE; rw [if_neg (by rw [hT]; simp), if_pos hs]
      refine ⟨by rw [he, e0], ?_, hf.mono (by simp)⟩
      unfold wrS
      rw [e0, if_neg (by omega)]
      exact h.to hf (by simp) (by simp)
    · refine (Write_main b p F m cap st A t a s w ht h hT (by omega) ha hbw).mono fun e w' ⟨he, hm, hf⟩ => ?_
      have e0 : wrE st t a s = thr t 2 a s.size := by unfold wrE; rw [if_neg (by rw [hT]; simp), if_neg hs]
      refine ⟨by rw [he, e0], ?_, hf⟩
      unfold wrS
      rw [e0]
      exact hm
end Go.Proofs.YtbmaecdlkchkeaaGreatDoor
namespace Go.Proofs.YtbmaecdlkchkeaaGreatDoor
open Go.RowKit
set_option linter.unusedVariables false
set_option maxRecDepth 100000
set_option linter.unusedSimpArgs false
theorem bits_or_nat (x y : Nat) (hx : x < 2 ^ 43) (hy : y < 2 ^ 43) : bits .or .i64 (x : Int) (y : Int) = ((x ||| y : Nat) : Int) := by
  have h1 : x ||| y < 2 ^ 43 := Nat.or_lt_two_pow hx hy
  show IntKind.i64.wrap (((BitVec.ofInt 64 (x : Int) ||| BitVec.ofInt 64 (y : Int)).toNat : Nat) : Int) = _
  rw [BitVec.toNat_or, BitVec.ofInt_natCast, BitVec.ofInt_natCast, BitVec.toNat_ofNat, BitVec.toNat_ofNat, Nat.mod_eq_of_lt (by omega), Nat.mod_eq_of_lt (by omega)]
  exact IntWalk.i64_in _ (by omega)
theorem or_byte (n c : Nat) (hc : c < 256) : 256 * n ||| c = 256 * n + c := by
  have := Nat.two_pow_add_eq_or_of_lt (i := 8) hc n
  simpa using this.symm
theorem ret_tup {a b e : Int} (h : a = b) : Ending.returned (.tuple #[.int .i64 a, .int .i64 e]) = .returned (.tuple #[.int .i64 b, .int .i64 e]) := by rw [h]
/-- The word of bytes. -/
def word (l : List UInt8) : Nat := l.foldl (fun n c => 256 * n + c.toNat) 0
theorem word_snoc (l : List UInt8) (c : UInt8) : word (l ++ [c]) = 256 * word l + c.toNat := by simp [word]
theorem word_lt' : ∀ (l : List UInt8) (acc : Nat), l.foldl (fun n c => 256 * n + c.toNat) acc < (acc + 1) * 256 ^ l.length := by
  intro l
  induction l with
  | nil => intro acc; simp
  | cons c l ih =>
    intro acc
    rw [List.foldl_cons, List.length_cons, Nat.pow_succ]
    have h1 := ih (256 * acc + c.toNat)
    have h2 := c.toNat_lt
    have h3 : (256 * acc + c.toNat + 1) * 256 ^ l.length ≤ (256 * (acc + 1)) * 256 ^ l.length := Nat.mul_le_mul_right _ (by omega)
    have h4 : (acc + 1) * (256 ^ l.length * 256) = (256 * (acc + 1)) * 256 ^ l.length := by
      rw [Nat.mul_comm (256 ^ l.length) 256, ← Nat.mul_assoc, Nat.mul_comm (acc + 1) 256]
    omega
theorem word_lt (l : List UInt8) : word l < 256 ^ l.length := by
  have := word_lt' l 0
  simpa [word] using this
/-- What Load tells. -/
def ldR (st : St) (t : List Pg) (a k r : Int) : Int × Int :=
  if okT st.n t = false then (0, 84) else if k ≠ 1 ∧ k ≠ 2 ∧ k ≠ 4 then (0, 80) else (((word (rdRM st t a k r).1 : Nat) : Int), (rdRM st t a k r).2)
set_option maxRecDepth 100000 in
set_option maxHeartbeats 1000000 in
theorem Load_no (b p F m cap : Nat) (st : St) (A : Option Addr) (t : List Pg) (a k r : Int) (w : World) (ht : Tb w b (.slice A m cap) t) (h : MemAt w p F st) (hT : okT st.n t = false) :
    Calls Tryz.prog 44 #[ptr p, .slice A m cap, .int .i64 a, .int .i64 k, .int .i64 r] w fun e w' => e = .returned (.tuple #[.int .i64 0, .int .i64 84]) ∧ Fr [] w w' := by
  have Hc := Lib.hid (Check_no b p F st.n m cap A t w ht h.hd hT)
  clear h ht hT
  go_enter Tryz.func44, Tryz.ntmps44
  go_wp2_with (go_at_call 77; go_must ((with_reducible refine Hc.out.mono ?_); rintro e w1 ⟨rfl, hf1⟩))
  go_ret2
  exact ⟨rfl, hf1⟩
set_option maxRecDepth 100000 in
set_option maxHeartbeats 1000000 in
theorem Load_size (b p F m cap : Nat) (st : St) (A : Option Addr) (t : List Pg) (a k r : Int) (w : World) (ht : Tb w b (.slice A m cap) t) (h : MemAt w p F st) (hT : okT st.n t = true) (hk : k ≠ 1 ∧ k ≠ 2 ∧ k ≠ 4) :
    Calls Tryz.prog 44 #[ptr p, .slice A m cap, .int .i64 a, .int .i64 k, .int .i64 r] w fun e w' => e = .returned (.tuple #[.int .i64 0, .int .i64 80]) ∧ Fr [] w w' := by
  have Hc := Lib.hid (Check_ok b p F st.n m cap A t w ht h.hd hT)
  have d1 : (k != 1) = true := by rw [bne_iff_ne]; exact hk.1
  have d2 : (k != 2) = true := by rw [bne_iff_ne]; exact hk.2.1
  have d3 : (k != 4) = true := by rw [bne_iff_ne]; exact hk.2.2
  clear h ht hT hk
  go_enter Tryz.func44, Tryz.ntmps44
  go_wp2_with (go_at_call 77; go_must ((with_reducible refine Hc.out.mono ?_); rintro e w1 ⟨rfl, hf1⟩))
  go_ret2
  exact ⟨rfl, hf1⟩
set_option maxRecDepth 100000 in
set_option maxHeartbeats 1000000 in
theorem Load_main (b p F m cap : Nat) (st : St) (A : Option Addr) (t : List Pg) (a k r : Int) (w : World) (ht : Tb w b (.slice A m cap) t) (h : MemAt w p F st) (hT : okT st.n t = true) (hk : k = 1 ∨ k = 2 ∨ k = 4) (ha : a ≤ 9223372036854775807) (hbw : b < w.heap.size) (l : List UInt8) (er : Int) (hrd : rdRM st t a k r = (l, er)) (hl : l.length ≤ 4) :
    Calls Tryz.prog 44 #[ptr p, .slice A m cap, .int .i64 a, .int .i64 k, .int .i64 r] w fun e w' => e = .returned (.tuple #[.int .i64 (word l : Nat), .int .i64 er]) ∧ Fr [] w w' := by
  have Hc := Lib.hid (Check_ok b p F st.n m cap A t w ht h.hd hT)
  have Hr : Hid (∀ W, Fr [] w W → Calls Tryz.prog 47 #[ptr p, .slice A m cap, .int .i64 a, .int .i64 k, .int .i64 r] W fun e w' => e = .returned (.tuple #[.string ⟨l.toArray⟩, .int .i64 er]) ∧ Fr [] W w') :=
    Lib.hid fun W hf => (Read_any b p F m cap st A t a k r W (ht.fr hf (by simp)) (h.to hf (by simp) (by simp)) ha (by have := hf.size; omega)).mono fun e w' ⟨he, hf⟩ => ⟨by rw [he, hrd], hf⟩
  have d1 : (k != 1 && k != 2 && k != 4) = false := by rcases hk with rfl | rfl | rfl <;> rfl
  have hcv := fun w => run_bytes_of_string (P := Tryz.prog) w 9 64 5 ⟨l.toArray⟩ Tryz.underlying9 Tryz.underlying64 Tryz.underlying5
  have hsz : (⟨l.toArray⟩ : ByteArray).size = l.length := rfl
  obtain ⟨N, hN⟩ : ∃ N, l.length = N := ⟨_, rfl⟩
  rw [hN] at hl
  have HN := Lib.hid hN
  rw [hsz, hN] at hcv
  have HS := Lib.hid hsz
  clear h ht hT hrd hN hsz
  rcases hk with rfl | rfl | rfl
  · go_enter Tryz.func44, Tryz.ntmps44
    go_wp2_with (first
      | (go_at_call 77; go_must ((with_reducible refine Hc.out.mono ?_); rintro e w1 ⟨rfl, hf1⟩))
      | (go_at_call 47; go_must ((with_reducible refine (Hr.out _ hf1).mono ?_); rintro e w2 ⟨rfl, hf2⟩))
      | fail)
    have hB : ∀ (j : Nat) (c : UInt8), l[j]? = some c → ((w2.alloc (.cells (bytesRow ⟨l.toArray⟩ (grownCap w2 N 0 5)) 5 ((bytesRow ⟨l.toArray⟩ (grownCap w2 N 0 5)).size, (bytesRow ⟨l.toArray⟩ (grownCap w2 N 0 5)).size + 1))).drew).cell? ⟨w2.heap.size, j, none⟩ = some (.int .u8 (c.toNat : Int)) := by
      intro j c hc
      have hj : j < l.toArray.size := by simpa using (List.getElem?_eq_some_iff.1 hc).1
      have h1 := bytesRow_at ⟨l.toArray⟩ (grownCap w2 N 0 5) j hj
      have h2 := World.cell?_alloc_mark w2 (bytesRow ⟨l.toArray⟩ (grownCap w2 N 0 5)) 5 ((bytesRow ⟨l.toArray⟩ (grownCap w2 N 0 5)).size, (bytesRow ⟨l.toArray⟩ (grownCap w2 N 0 5)).size + 1) j
      have h3 : l.toArray[j] = c := by simpa using (List.getElem?_eq_some_iff.1 hc).2
      rw [World.cell?_drew, h2, h1]
      show some (Value.int .u8 ((l.toArray[j]).toNat : Int)) = _
      rw [h3]
    have hfr : Fr [] w ((w2.alloc (.cells (bytesRow ⟨l.toArray⟩ (grownCap w2 N 0 5)) 5 ((bytesRow ⟨l.toArray⟩ (grownCap w2 N 0 5)).size, (bytesRow ⟨l.toArray⟩ (grownCap w2 N 0 5)).size + 1))).drew) := (((hf1.trans hf2).alloc _).drew)
    generalize (w2.alloc (.cells (bytesRow ⟨l.toArray⟩ (grownCap w2 N 0 5)) 5 ((bytesRow ⟨l.toArray⟩ (grownCap w2 N 0 5)).size, (bytesRow ⟨l.toArray⟩ (grownCap w2 N 0 5)).size + 1))).drew = W3 at *
    generalize grownCap w2 N 0 5 = C at *
    have HB := Lib.hid hB
    clear hB hf1 hf2
    go_loopg [15, 46] N (fun gg x i wr => ∃ j : Nat, j + gg = N ∧ i = .int .i64 j ∧ x = .int .i64 (word (l.take j) : Nat) ∧ wr = W3)
    case atStart => exact ⟨0, by omega, rfl, rfl, rfl⟩
    case round =>
      obtain ⟨j, hj, rfl, rfl, rfl⟩ := hrel
      have Hj := Lib.hid hj
      by_cases hlt : j < N
      · obtain ⟨c, hc⟩ : ∃ c, l[j]? = some c := ⟨_, List.getElem?_eq_getElem (by have := HN.out; omega)⟩
        have c0 := HB.out j c hc
        have hcl := c.toNat_lt
        have hw := word_lt (l.take j)
        have hlen : (l.take j).length ≤ 3 := by rw [List.length_take]; omega
        have hw2 : word (l.take j) < 16777216 := Nat.lt_of_lt_of_le hw (Nat.pow_le_pow_right (by omega) hlen)
        have hsn : word (l.take (j + 1)) = 256 * word (l.take j) + c.toNat := by rw [List.take_add_one, hc]; exact word_snoc _ _
        have Hsn := Lib.hid hsn
        have hki : (j : Int) < (N : Int) := by omega
        clear hw hlen hsn hc hj
        generalize word (l.take j) = X at *
        generalize c.toNat = Y at *
        go_wp2
        go_roundg (N - (j + 1))
        case measure => have := Hj.out; omega
        case rel => refine ⟨j + 1, by have := Hj.out; omega, by go_num, by rw [show (X : Int) * 256 = ((256 * X : Nat) : Int) from by omega, bits_or_nat _ _ (by omega) (by omega), or_byte X Y hcl, Hsn.out], rfl⟩
      · have hjN : j = N := by omega
        have hki : ¬ (j : Int) < (N : Int) := by omega
        have hw : word (l.take j) = word l := by rw [hjN, ← HN.out, List.take_length]
        have Hw := Lib.hid hw
        clear hw hj hjN
        go_wp2
        go_ret2
        exact ⟨ret_tup (by rw [Hw.out]), hfr⟩
  · go_enter Tryz.func44, Tryz.ntmps44
    go_wp2_with (first
      | (go_at_call 77; go_must ((with_reducible refine Hc.out.mono ?_); rintro e w1 ⟨rfl, hf1⟩))
      | (go_at_call 47; go_must ((with_reducible refine (Hr.out _ hf1).mono ?_); rintro e w2 ⟨rfl, hf2⟩))
      | fail)
    have hB : ∀ (j : Nat) (c : UInt8), l[j]? = some c → ((w2.alloc (.cells (bytesRow ⟨l.toArray⟩ (grownCap w2 N 0 5)) 5 ((bytesRow ⟨l.toArray⟩ (grownCap w2 N 0 5)).size, (bytesRow ⟨l.toArray⟩ (grownCap w2 N 0 5)).size + 1))).drew).cell? ⟨w2.heap.size, j, none⟩ = some (.int .u8 (c.toNat : Int)) := by
      intro j c hc
      have hj : j < l.toArray.size := by simpa using (List.getElem?_eq_some_iff.1 hc).1
      have h1 := bytesRow_at ⟨l.toArray⟩ (grownCap w2 N 0 5) j hj
      have h2 := World.cell?_alloc_mark w2 (bytesRow ⟨l.toArray⟩ (grownCap w2 N 0 5)) 5 ((bytesRow ⟨l.toArray⟩ (grownCap w2 N 0 5)).size, (bytesRow ⟨l.toArray⟩ (grownCap w2 N 0 5)).size + 1) j
      have h3 : l.toArray[j] = c := by simpa using (List.getElem?_eq_some_iff.1 hc).2
      rw [World.cell?_drew, h2, h1]
      show some (Value.int .u8 ((l.toArray[j]).toNat : Int)) = _
      rw [h3]
    have hfr : Fr [] w ((w2.alloc (.cells (bytesRow ⟨l.toArray⟩ (grownCap w2 N 0 5)) 5 ((bytesRow ⟨l.toArray⟩ (grownCap w2 N 0 5)).size, (bytesRow ⟨l.toArray⟩ (grownCap w2 N 0 5)).size + 1))).drew) := (((hf1.trans hf2).alloc _).drew)
    generalize (w2.alloc (.cells (bytesRow ⟨l.toArray⟩ (grownCap w2 N 0 5)) 5 ((bytesRow ⟨l.toArray⟩ (grownCap w2 N 0 5)).size, (bytesRow ⟨l.toArray⟩ (grownCap w2 N 0 5)).size + 1))).drew = W3 at *
    generalize grownCap w2 N 0 5 = C at *
    have HB := Lib.hid hB
    clear hB hf1 hf2
    go_loopg [15, 46] N (fun gg x i wr => ∃ j : Nat, j + gg = N ∧ i = .int .i64 j ∧ x = .int .i64 (word (l.take j) : Nat) ∧ wr = W3)
    case atStart => exact ⟨0, by omega, rfl, rfl, rfl⟩
    case round =>
      obtain ⟨j, hj, rfl, rfl, rfl⟩ := hrel
      have Hj := Lib.hid hj
      by_cases hlt : j < N
      · obtain ⟨c, hc⟩ : ∃ c, l[j]? = some c := ⟨_, List.getElem?_eq_getElem (by have := HN.out; omega)⟩
        have c0 := HB.out j c hc
        have hcl := c.toNat_lt
        have hw := word_lt (l.take j)
        have hlen : (l.take j).length ≤ 3 := by rw [List.length_take]; omega
        have hw2 : word (l.take j) < 16777216 := Nat.lt_of_lt_of_le hw (Nat.pow_le_pow_right (by omega) hlen)
        have hsn : word (l.take (j + 1)) = 256 * word (l.take j) + c.toNat := by rw [List.take_add_one, hc]; exact word_snoc _ _
        have Hsn := Lib.hid hsn
        have hki : (j : Int) < (N : Int) := by omega
        clear hw hlen hsn hc hj
        generalize word (l.take j) = X at *
        generalize c.toNat = Y at *
        go_wp2
        go_roundg (N - (j + 1))
        case measure => have := Hj.out; omega
        case rel => refine ⟨j + 1, by have := Hj.out; omega, by go_num, by rw [show (X : Int) * 256 = ((256 * X : Nat) : Int) from by omega, bits_or_nat _ _ (by omega) (by omega), or_byte X Y hcl, Hsn.out], rfl⟩
      · have hjN : j = N := by omega
        have hki : ¬ (j : Int) < (N : Int) := by omega
        have hw : word (l.take j) = word l := by rw [hjN, ← HN.out, List.take_length]
        have Hw := Lib.hid hw
        clear hw hj hjN
        go_wp2
        go_ret2
        exact ⟨ret_tup (by rw [Hw.out]), hfr⟩
  · go_enter Tryz.func44, Tryz.ntmps44
    go_wp2_with (first
      | (go_at_call 77; go_must ((with_reducible refine Hc.out.mono ?_); rintro e w1 ⟨rfl, hf1⟩))
      | (go_at_call 47; go_must ((with_reducible refine (Hr.out _ hf1).mono ?_); rintro e w2 ⟨rfl, hf2⟩))
      | fail)
    have hB : ∀ (j : Nat) (c : UInt8), l[j]? = some c → ((w2.alloc (.cells (bytesRow ⟨l.toArray⟩ (grownCap w2 N 0 5)) 5 ((bytesRow ⟨l.toArray⟩ (grownCap w2 N 0 5)).size, (bytesRow ⟨l.toArray⟩ (grownCap w2 N 0 5)).size + 1))).drew).cell? ⟨w2.heap.size, j, none⟩ = some (.int .u8 (c.toNat : Int)) := by
      intro j c hc
      have hj : j < l.toArray.size := by simpa using (List.getElem?_eq_some_iff.1 hc).1
      have h1 := bytesRow_at ⟨l.toArray⟩ (grownCap w2 N 0 5) j hj
      have h2 := World.cell?_alloc_mark w2 (bytesRow ⟨l.toArray⟩ (grownCap w2 N 0 5)) 5 ((bytesRow ⟨l.toArray⟩ (grownCap w2 N 0 5)).size, (bytesRow ⟨l.toArray⟩ (grownCap w2 N 0 5)).size + 1) j
      have h3 : l.toArray[j] = c := by simpa using (List.getElem?_eq_some_iff.1 hc).2
      rw [World.cell?_drew, h2, h1]
      show some (Value.int .u8 ((l.toArray[j]).toNat : Int)) = _
      rw [h3]
    have hfr : Fr [] w ((w2.alloc (.cells (bytesRow ⟨l.toArray⟩ (grownCap w2 N 0 5)) 5 ((bytesRow ⟨l.toArray⟩ (grownCap w2 N 0 5)).size, (bytesRow ⟨l.toArray⟩ (grownCap w2 N 0 5)).size + 1))).drew) := (((hf1.trans hf2).alloc _).drew)
    generalize (w2.alloc (.cells (bytesRow ⟨l.toArray⟩ (grownCap w2 N 0 5)) 5 ((bytesRow ⟨l.toArray⟩ (grownCap w2 N 0 5)).size, (bytesRow ⟨l.toArray⟩ (grownCap w2 N 0 5)).size + 1))).drew = W3 at *
    generalize grownCap w2 N 0 5 = C at *
    have HB := Lib.hid hB
    clear hB hf1 hf2
    go_loopg [15, 46] N (fun gg x i wr => ∃ j : Nat, j + gg = N ∧ i = .int .i64 j ∧ x = .int .i64 (word (l.take j) : Nat) ∧ wr = W3)
    case atStart => exact ⟨0, by omega, rfl, rfl, rfl⟩
    case round =>
      obtain ⟨j, hj, rfl, rfl, rfl⟩ := hrel
      have Hj := Lib.hid hj
      by_cases hlt : j < N
      · obtain ⟨c, hc⟩ : ∃ c, l[j]? = some c := ⟨_, List.getElem?_eq_getElem (by have := HN.out; omega)⟩
        have c0 := HB.out j c hc
        have hcl := c.toNat_lt
        have hw := word_lt (l.take j)
        have hlen : (l.take j).length ≤ 3 := by rw [List.length_take]; omega
        have hw2 : word (l.take j) < 16777216 := Nat.lt_of_lt_of_le hw (Nat.pow_le_pow_right (by omega) hlen)
        have hsn : word (l.take (j + 1)) = 256 * word (l.take j) + c.toNat := by rw [List.take_add_one, hc]; exact word_snoc _ _
        have Hsn := Lib.hid hsn
        have hki : (j : Int) < (N : Int) := by omega
        clear hw hlen hsn hc hj
        generalize word (l.take j) = X at *
        generalize c.toNat = Y at *
        go_wp2
        go_roundg (N - (j + 1))
        case measure => have := Hj.out; omega
        case rel => refine ⟨j + 1, by have := Hj.out; omega, by go_num, by rw [show (X : Int) * 256 = ((256 * X : Nat) : Int) from by omega, bits_or_nat _ _ (by omega) (by omega), or_byte X Y hcl, Hsn.out], rfl⟩
      · have hjN : j = N := by omega
        have hki : ¬ (j : Int) < (N : Int) := by omega
        have hw : word (l.take j) = word l := by rw [hjN, ← HN.out, List.take_length]
        have Hw := Lib.hid hw
        clear hw hj hjN
        go_wp2
        go_ret2
        exact ⟨ret_tup (by rw [Hw.out]), hfr⟩
theorem rdR_len {st : St} {t : List Pg} {a k r : Int} (hk : k = 1 ∨ k = 2 ∨ k = 4) : (rdRM st t a k r).1.length ≤ 4 := by
  unfold rdRM
  split
  · simp
  · split
    · simp
    · split
      · simp
        omega
      · simp
theorem Load_any (b p F m cap : Nat) (st : St) (A : Option Addr) (t : List Pg) (a k r : Int) (w : World) (ht : Tb w b (.slice A m cap) t) (h : MemAt w p F st) (ha : a ≤ 9223372036854775807) (hbw : b < w.heap.size) :
    Calls Tryz.prog 44 #[ptr p, .slice A m cap, .int .i64 a, .int .i64 k, .int .i64 r] w fun e w' => e = .returned (.tuple #[.int .i64 (ldR st t a k r).1, .int .i64 (ldR st t a k r).2]) ∧ Fr [] w w' := by
  cases hT : okT st.n t with
  | false =>
    have e0 : ldR st t a k r = (0, 84) := by unfold ldR; rw [if_pos hT]
    rw [e0]
    exact Load_no b p F m cap st A t a k r w ht h hT
  | true =>
    by_cases hk : k = 1 ∨ k = 2 ∨ k = 4
    · have e0 : ldR st t a k r = (((word (rdRM st t a k r).1 : Nat) : Int), (rdRM st t a k r).2) := by unfold ldR; rw [if_neg (by rw [hT]; simp), if_neg (by omega)]
      rw [e0]
      exact Load_main b p F m cap st A t a k r w ht h hT hk ha hbw _ _ rfl (rdR_len hk)
    · have e0 : ldR st t a k r = (0, 80) := by unfold ldR; rw [if_neg (by rw [hT]; simp), if_pos (by omega)]
      rw [e0]
      exact Load_size b p F m cap st A t a k r w ht h hT (by omega)
end Go.Proofs.YtbmaecdlkchkeaaGreatDoor
namespace Go.Proofs.YtbmaecdlkchkeaaGreatDoor
open Go.RowKit
set_option linter.unusedVariables false
set_option maxRecDepth 100000
set_option linter.unusedSimpArgs false
/-- The byte of a number that stands behind d. -/
def byt (n d : Int) : UInt8 := UInt8.ofNat ((n / d) % 256).toNat
theorem byt_val (n d : Int) : ((byt n d).toNat : Int) = (n / d) % 256 := by
  unfold byt
  have h1 : 0 ≤ (n / d) % 256 := Int.emod_nonneg _ (by omega)
  have h2 : (n / d) % 256 < 256 := Int.emod_lt_of_pos _ (by omega)
  rw [UInt8.toNat_ofNat', Nat.mod_eq_of_lt (by omega)]
  omega
/-- The bytes of a word of a width, the highest first. -/
def wordB (n k : Int) : List UInt8 := if k = 1 then [byt n 1] else if k = 2 then [byt n 256, byt n 1] else [byt n 16777216, byt n 65536, byt n 256, byt n 1]
def wordS (n k : Int) : ByteArray := ⟨(wordB n k).toArray⟩
def stE (st : St) (t : List Pg) (a k n : Int) : Int := if okT st.n t = false then 84 else if k ≠ 1 ∧ k ≠ 2 ∧ k ≠ 4 then 80 else wrE st t a (wordS n k)
def stS (st : St) (t : List Pg) (a k n : Int) : St := if okT st.n t = false then st else if k ≠ 1 ∧ k ≠ 2 ∧ k ≠ 4 then st else wrS st t a (wordS n k)
set_option maxRecDepth 100000 in
set_option maxHeartbeats 1000000 in
theorem Store_no (b p F m cap : Nat) (st : St) (A : Option Addr) (t : List Pg) (a k n : Int) (w : World) (ht : Tb w b (.slice A m cap) t) (h : MemAt w p F st) (hT : okT st.n t = false) :
    Calls Tryz.prog 45 #[ptr p, .slice A m cap, .int .i64 a, .int .i64 k, .int .i64 n] w fun e w' => e = .returned (.int .i64 84) ∧ Fr [] w w' := by
  have Hc := Lib.hid (Check_no b p F st.n m cap A t w ht h.hd hT)
  clear h ht hT
  go_enter Tryz.func45, Tryz.ntmps45
  go_wp2_with (go_at_call 77; go_must ((with_reducible refine Hc.out.mono ?_); rintro e w1 ⟨rfl, hf1⟩))
  go_ret
  exact ⟨rfl, hf1⟩
set_option maxRecDepth 100000 in
set_option maxHeartbeats 1000000 in
theorem Store_size (b p F m cap : Nat) (st : St) (A : Option Addr) (t : List Pg) (a k n : Int) (w : World) (ht : Tb w b (.slice A m cap) t) (h : MemAt w p F st) (hT : okT st.n t = true) (hk : k ≠ 1 ∧ k ≠ 2 ∧ k ≠ 4) :
    Calls Tryz.prog 45 #[ptr p, .slice A m cap, .int .i64 a, .int .i64 k, .int .i64 n] w fun e w' => e = .returned (.int .i64 80) ∧ Fr [] w w' := by
  have Hc := Lib.hid (Check_ok b p F st.n m cap A t w ht h.hd hT)
  have d1 : (k != 1) = true := by rw [bne_iff_ne]; exact hk.1
  have d2 : (k != 2) = true := by rw [bne_iff_ne]; exact hk.2.1
  have d3 : (k != 4) = true := by rw [bne_iff_ne]; exact hk.2.2
  clear h ht hT hk
  go_enter Tryz.func45, Tryz.ntmps45
  go_wp2_with (go_at_call 77; go_must ((with_reducible refine Hc.out.mono ?_); rintro e w1 ⟨rfl, hf1⟩))
  go_ret
  exact ⟨rfl, hf1⟩
abbrev w4c (n : Int) : Array Value := #[.int .u8 (n / 16777216 % 256), .int .u8 (n / 65536 % 256), .int .u8 (n / 256 % 256), .int .u8 (n % 256)]
theorem byt1 (n : Int) : ((byt n 1).toNat : Int) = n % 256 := by rw [byt_val, Int.ediv_one]
theorem conv_word (n : Int) (o k : Nat) (hk : (o = 3 ∧ k = 1) ∨ (o = 2 ∧ k = 2) ∨ (o = 0 ∧ k = 4)) (w1 : World) : (convert 64 9 (.slice (some ⟨w1.heap.size, o, none⟩) k k)).run Tryz.prog (w1.alloc (.cells (w4c n) 132)) = .ok (.string (wordS n k)) (w1.alloc (.cells (w4c n) 132)) := by
  have hb := Blk.new w1 132 (w4c n)
  rcases hk with ⟨rfl, rfl⟩ | ⟨rfl, rfl⟩ | ⟨rfl, rfl⟩
  · refine conv_list [byt n 1] rfl (fun j c hj => ?_)
    match j, hj with
    | 0, hj => simp at hj; subst hj; rw [hb.cell, byt1]; rfl
  · refine conv_list [byt n 256, byt n 1] rfl (fun j c hj => ?_)
    match j, hj with
    | 0, hj => simp at hj; subst hj; rw [hb.cell, byt_val]; rfl
    | 1, hj => simp at hj; subst hj; rw [hb.cell, byt1]; rfl
  · refine conv_list [byt n 16777216, byt n 65536, byt n 256, byt n 1] rfl (fun j c hj => ?_)
    match j, hj with
    | 0, hj => simp at hj; subst hj; rw [hb.cell, byt_val]; rfl
    | 1, hj => simp at hj; subst hj; rw [hb.cell, byt_val]; rfl
    | 2, hj => simp at hj; subst hj; rw [hb.cell, byt_val]; rfl
    | 3, hj => simp at hj; subst hj; rw [hb.cell, byt1]; rfl
set_option maxRecDepth 100000 in
set_option maxHeartbeats 1000000 in
theorem Store_1 (b p F m cap : Nat) (st : St) (A : Option Addr) (t : List Pg) (a n : Int) (w : World) (ht : Tb w b (.slice A m cap) t) (h : MemAt w p F st) (hT : okT st.n t = true) (ha : a ≤ 9223372036854775807) (hbw : b < w.heap.size) :
    Calls Tryz.prog 45 #[ptr p, .slice A m cap, .int .i64 a, .int .i64 1, .int .i64 n] w (WriteP w p F st t a (wordS n 1)) := by
  have Hc := Lib.hid (Check_ok b p F st.n m cap A t w ht h.hd hT)
  have Hw := Lib.hid fun W (hf : Fr [] w W) => MWrite_any b p F m cap st A t a (wordS n 1) W (ht.fr hf (by simp)) (h.to hf (by simp) (by simp)) ha (by have := hf.size; omega)
  have hcv := conv_word n 3 1 (by simp)
  clear h ht hT
  go_enter Tryz.func45, Tryz.ntmps45
  go_wp2_with (first
    | (go_at_call 77; go_must ((with_reducible refine Hc.out.mono ?_); rintro e w1 ⟨rfl, hf1⟩))
    | (go_at_call 78; go_must ((refine (Hw.out _ (hf1.alloc _)).mono ?_); rintro e w2 ⟨rfl, hm2, hf2⟩))
    | fail)
  go_ret
  exact ⟨rfl, hm2, ((hf1.alloc _).mono (by simp)).trans hf2⟩
set_option maxRecDepth 100000 in
set_option maxHeartbeats 1000000 in
theorem Store_2 (b p F m cap : Nat) (st : St) (A : Option Addr) (t : List Pg) (a n : Int) (w : World) (ht : Tb w b (.slice A m cap) t) (h : MemAt w p F st) (hT : okT st.n t = true) (ha : a ≤ 9223372036854775807) (hbw : b < w.heap.size) :
    Calls Tryz.prog 45 #[ptr p, .slice A m cap, .int .i64 a, .int .i64 2, .int .i64 n] w (WriteP w p F st t a (wordS n 2)) := by
  have Hc := Lib.hid (Check_ok b p F st.n m cap A t w ht h.hd hT)
  have Hw := Lib.hid fun W (hf : Fr [] w W) => MWrite_any b p F m cap st A t a (wordS n 2) W (ht.fr hf (by simp)) (h.to hf (by simp) (by simp)) ha (by have := hf.size; omega)
  have hcv := conv_word n 2 2 (by simp)
  clear h ht hT
  go_enter Tryz.func45, Tryz.ntmps45
  go_wp2_with (first
    | (go_at_call 77; go_must ((with_reducible refine Hc.out.mono ?_); rintro e w1 ⟨rfl, hf1⟩))
    | (go_at_call 78; go_must ((refine (Hw.out _ (hf1.alloc _)).mono ?_); rintro e w2 ⟨rfl, hm2, hf2⟩))
    | fail)
  go_ret
  exact ⟨rfl, hm2, ((hf1.alloc _).mono (by simp)).trans hf2⟩
set_option maxRecDepth 100000 in
set_option maxHeartbeats 1000000 in
theorem Store_4 (b p F m cap : Nat) (st : St) (A : Option Addr) (t : List Pg) (a n : Int) (w : World) (ht : Tb w b (.slice A m cap) t) (h : MemAt w p F st) (hT : okT st.n t = true) (ha : a ≤ 9223372036854775807) (hbw : b < w.heap.size) :
    Calls Tryz.prog 45 #[ptr p, .slice A m cap, .int .i64 a, .int .i64 4, .int .i64 n] w (WriteP w p F st t a (wordS n 4)) := by
  have Hc := Lib.hid (Check_ok b p F st.n m cap A t w ht h.hd hT)
  have Hw := Lib.hid fun W (hf : Fr [] w W) => MWrite_any b p F m cap st A t a (wordS n 4) W (ht.fr hf (by simp)) (h.to hf (by simp) (by simp)) ha (by have := hf.size; omega)
  have hcv := conv_word n 0 4 (by simp)
  clear h ht hT
  go_enter Tryz.func45, Tryz.ntmps45
  go_wp2_with (first
    | (go_at_call 77; go_must ((with_reducible refine Hc.out.mono ?_); rintro e w1 ⟨rfl, hf1⟩))
    | (go_at_call 78; go_must ((refine (Hw.out _ (hf1.alloc _)).mono ?_); rintro e w2 ⟨rfl, hm2, hf2⟩))
    | fail)
  go_ret
  exact ⟨rfl, hm2, ((hf1.alloc _).mono (by simp)).trans hf2⟩
def StoreP (w : World) (p F : Nat) (st : St) (t : List Pg) (a k n : Int) (e : Ending) (w' : World) : Prop :=
  e = .returned (.int .i64 (stE st t a k n)) ∧ MemAt w' p F (stS st t a k n) ∧ Fr [F] w w'
theorem Store_any (b p F m cap : Nat) (st : St) (A : Option Addr) (t : List Pg) (a k n : Int) (w : World) (ht : Tb w b (.slice A m cap) t) (h : MemAt w p F st) (ha : a ≤ 9223372036854775807) (hbw : b < w.heap.size) :
    Calls Tryz.prog 45 #[ptr p, .slice A m cap, .int .i64 a, .int .i64 k, .int .i64 n] w (StoreP w p F st t a k n) := by
  cases hT : okT st.n t with
  | false =>
    refine (Store_no b p F m cap st A t a k n w ht h hT).mono fun e w' ⟨he, hf⟩ => ?_
    refine ⟨by rw [he]; unfold stE; rw [if_pos hT], ?_, hf.mono (by simp)⟩
    unfold stS
    rw [if_pos hT]
    exact h.to hf (by simp) (by simp)
  | true =>
    have hT' : ¬ okT st.n t = false := by rw [hT]; simp
    by_cases hk : k ≠ 1 ∧ k ≠ 2 ∧ k ≠ 4
    · refine (Store_size b p F m cap st A t a k n w ht h hT hk).mono fun e w' ⟨he, hf⟩ => ?_
      refine ⟨by rw [he]; unfold stE; rw [if_neg hT', if_pos hk], ?_, hf.mono (by simp)⟩
      unfold stS
      rw [if_neg hT', if_pos hk]
      exact h.to hf (by simp) (by simp)
    · have key : Calls Tryz.prog 45 #[ptr p, .slice A m cap, .int .i64 a, .int .i64 k, .int .i64 n] w (WriteP w p F st t a (wordS n k)) := by
        rcases (by omega : k = 1 ∨ k = 2 ∨ k = 4) with rfl | rfl | rfl
        · exact Store_1 b p F m cap st A t a n w ht h hT ha hbw
        · exact Store_2 b p F m cap st A t a n w ht h hT ha hbw
        · exact Store_4 b p F m cap st A t a n w ht h hT ha hbw
      refine key.mono fun e w' ⟨he, hm, hf⟩ => ⟨?_, ?_, hf⟩
      · rw [he]; unfold stE; rw [if_neg hT', if_neg hk]
      · unfold stS
        rw [if_neg hT', if_neg hk]
        exact hm
end Go.Proofs.YtbmaecdlkchkeaaGreatDoor

/- SchedFair: the plain law and the walk. -/
import Derived.Test.YtnpdljmgjpngaaaL2
namespace Go.Proofs.Ytnpdljmgjpngaaa
open Go.RowKit
set_option linter.unusedVariables false
set_option linter.unusedSimpArgs false

theorem upS_add {l : List Win} (hok : okL l = true) (K I t : Int) : upS l K I (t + tot l l.length) = upS l K I t + ownS K I l := by
  have hl := okL_len hok
  have hL := tot_bd hok l.length (Nat.le_refl _)
  unfold upS
  rw [show t + tot l l.length = t + tot l l.length * 1 by omega, Int.add_mul_emod_self_left, Int.add_mul_ediv_left _ _ (by omega), Int.add_mul]
  omega
theorem tk_good {l : List Win} (hok : okL l = true) {K I f t : Int} (h1 : 0 ≤ f) (h2 : f ≤ t) (h3 : t ≤ 1099511627776) : tkT l K I f t = upS l K I t - upS l K I f ∧ tkE l f t = 0 := by
  have := tkArg_no (f := f) (t := t) h1 (by omega) (by omega) h3 h2
  unfold tkT tkE
  rw [hok, this]
  exact ⟨rfl, rfl⟩
theorem ownS_snoc (K I : Int) (l : List Win) (x : Win) : ownS K I (l ++ [x]) = ownS K I l + if isW K I x then x.T else 0 := by simp [ownS]
theorem ownS_bd {l : List Win} (h : ∀ x, x ∈ l → 1 ≤ x.T ∧ x.T ≤ 255) (K I : Int) : 0 ≤ ownS K I l ∧ ownS K I l ≤ 255 * l.length := by
  induction l with
  | nil => simp [ownS]
  | cons x l ih =>
    have h1 := h x (by simp)
    have h2 := ih (fun y hy => h y (by simp [hy]))
    simp only [ownS, List.map_cons, List.sum_cons, List.length_cons] at h2 ⊢
    split <;> omega
theorem okL_T2 {l : List Win} (h : okL l = true) : ∀ x, x ∈ l → 1 ≤ x.T ∧ x.T ≤ 255 := by
  intro x hx
  obtain ⟨j, hj⟩ := List.getElem?_of_mem hx
  have := (mayW_iff x).1 (okL_at h hj)
  omega
/-- What stands of the next tick, where there is one. -/
theorem next_found {l : List Win} (hok : okL l = true) {K I t x er : Int} (hany : l.any (isW K I) = true) (h : NextIs l K I t x er) :
    er = 0 ∧ t ≤ x ∧ x < t + tot l l.length ∧ ∃ k v, InWin l k (x % tot l l.length) ∧ x % tot l l.length - tot l k = 0 ∧ l[k]? = some v ∧ v.K = K ∧ v.I = I ∧ NextIs l K I x x 0 := by
  rw [List.any_eq_true] at hany
  obtain ⟨v, hv, hw⟩ := hany
  rcases h with ⟨rfl, h1, ⟨k, u, hk, hu, hx⟩, h3⟩ | ⟨_, _, h3⟩
  · obtain ⟨y, h4, h5, h6⟩ := beg_somewhere hok (t := t) hv hw
    have hxy : x ≤ y := by
      rcases Int.lt_or_le y x with h | h
      · exact absurd h6 (h3 y h4 h)
      · exact h
    have hkl : k < l.length := (List.getElem?_eq_some_iff.1 hk).1
    refine ⟨rfl, h1, by omega, k, u, ⟨hkl, by omega, by rw [hx]; exact tot_lt hok (by omega) (by omega)⟩, by omega, hk, ?_, ?_, .inl ⟨rfl, Int.le_refl _, ⟨k, u, hk, hu, hx⟩, fun z h7 h8 => by omega⟩⟩
    · unfold isW at hu; simp at hu; exact hu.1
    · unfold isW at hu; simp at hu; exact hu.2
  · rw [h3 v hv] at hw; cases hw
theorem next_lost {l : List Win} {K I t x er : Int} (hany : l.any (isW K I) = false) (h : NextIs l K I t x er) : er = 130 ∧ x = 0 := by
  rcases h with ⟨rfl, h1, ⟨k, u, hk, hu, hx⟩, h3⟩ | ⟨h1, h2, _⟩
  · rw [List.any_eq_false] at hany
    exact absurd hu (by simpa using hany u (List.mem_of_getElem? hk))
  · exact ⟨h1, h2⟩

set_option maxRecDepth 100000 in
set_option maxHeartbeats 2000000 in
theorem fair_no (A : Option Addr) (n cap : Nat) (l : List Win) (K I F T : Int) (w : World) (h : WinsIn w (.slice A n cap) l) (hn : n ≤ 4611686018427387904) (hok : okL l = false) :
    Calls Try.prog 4 #[.slice A n cap, .agg #[.int .i64 K, .int .i64 I, .int .i64 F, .int .i64 T]] w fun e w' => e = .returned (.bool true) ∧ Fr [] w w' := by
  have HL := Lib.hid fun w h => Length_any A n cap l w h hn
  have HC := Lib.hid fun w h => rcheck_no A n cap l w h hn hok
  have H := Lib.hid h
  have hE := chE_no hok
  have HE := Lib.hid hE
  have hf0 := (Fr.refl [] w).alloc (.cells #[.int .i64 K, .int .i64 I, .int .i64 F, .int .i64 T] 24)
  clear h hok hE
  go_enter Try.func4, Try.ntmps4
  go_wp2_with fail
  have h1 := HL.out _ (H.out.fr hf0)
  rw [HE.out] at h1
  refine h1.mono ?_
  clear h1
  rintro e w1 ⟨rfl, hf1⟩
  go_wp2_with fail
  refine (HC.out _ ((H.out.fr hf0).fr hf1)).mono ?_
  rintro e w2 ⟨rfl, hf2⟩
  go_wp2_with fail
  refine (fixed_any _).mono ?_
  rintro e w3 ⟨rfl, hf3⟩
  go_wp2_with fail
  go_ret
  exact ⟨rfl, ((hf0.trans hf1).trans hf2).trans hf3⟩

/-- What the loop knows when k windows are behind it. -/
def FairI (w : World) (K I F T : Int) (W : World) : Prop := Blk W w.heap.size 24 #[.int .i64 K, .int .i64 I, .int .i64 F, .int .i64 T] ∧ Fr [] w W

theorem FairI.drewN {w W : World} {K I F T : Int} (h : FairI w K I F T W) (n : Nat) : FairI w K I F T (W.drewN n) := ⟨h.1.drewN n, h.2.drewN n⟩

set_option maxRecDepth 100000 in
set_option maxHeartbeats 4000000 in
theorem fair_ok (A : Option Addr) (n cap : Nat) (l : List Win) (K I F T : Int) (w : World) (h : WinsIn w (.slice A n cap) l) (hn : n ≤ 4611686018427387904) (hok : okL l = true) :
    Calls Try.prog 4 #[.slice A n cap, .agg #[.int .i64 K, .int .i64 I, .int .i64 F, .int .i64 T]] w fun e w' => e = .returned (.bool true) ∧ Fr [] w w' := by
  have HL := Lib.hid fun w h => Length_any A n cap l w h hn
  have HT := Lib.hid fun f t w h => Ticks_any A n cap l w K I f t h hn
  have HN := Lib.hid fun t w h => Next_any A n cap l w K I t h hn
  have HA := Lib.hid fun t ht k hk w h => at_good A n cap l t hn hok ht (k := k) hk w h
  have H := Lib.hid h
  have Hlen := Lib.hid h.len
  have hl := okL_len hok
  have hn64 : n ≤ 64 := by have := Hlen.out; omega
  have hLb := tot_bd hok l.length (Nat.le_refl _)
  have hE : chE l = 0 := chE_ok hok
  have hLT : lenT l = tot l l.length := by unfold lenT; rw [hok]; rfl
  have HE := Lib.hid hE
  have HLT := Lib.hid hLT
  have hf0 := (Fr.refl [] w).alloc (.cells #[.int .i64 K, .int .i64 I, .int .i64 F, .int .i64 T] 24)
  have hb0 := Blk.new w 24 #[.int .i64 K, .int .i64 I, .int .i64 F, .int .i64 T]
  clear h hE hLT
  go_enter Try.func4, Try.ntmps4
  go_wp2_with fail
  have h1 := HL.out _ (H.out.fr hf0)
  rw [HE.out, HLT.out] at h1
  refine h1.mono ?_
  clear h1
  rintro e w1 ⟨rfl, hf1⟩
  have Hok := Lib.hid hok
  clear hok
  have hI0 : FairI w K I F T w1 := ⟨hb0.fr hf1 (by simp), hf0.trans hf1⟩
  have HI0 := Lib.hid hI0
  clear hI0 hf0 hb0 hf1
  obtain ⟨L, hL⟩ : ∃ L, tot l l.length = L := ⟨_, rfl⟩
  rw [hL] at hLb ⊢
  have HLL := Lib.hid hL
  clear hL
  go_wp2_with fail
  go_loopg [7, 8, 9] n (fun g own is i wr => ∃ k : Nat, k + g = n ∧ i = .int .i64 k ∧ own = .int .i64 (ownS K I (l.take k)) ∧ is = .bool ((l.take k).any (isW K I)) ∧ FairI w K I F T wr)
  case atStart => exact ⟨0, by omega, rfl, rfl, rfl, HI0.out⟩
  case round =>
    obtain ⟨k, hk, rfl, rfl, rfl, hI⟩ := hrel
    have HI := Lib.hid hI
    have Hk := Lib.hid hk
    have c0 := hI.1.cell 0
    have c1 := hI.1.cell 1
    simp at c0 c1
    by_cases hlt : k < n
    · obtain ⟨x, hx⟩ : ∃ x, l[k]? = some x := ⟨_, List.getElem?_eq_getElem (by have := Hlen.out; omega)⟩
      obtain ⟨b, off, hA, hbl, d0, d1, d2⟩ := (H.out.fr hI.2).at_ hx
      subst hA
      have hm := okL_T2 Hok.out x (List.mem_of_getElem? hx)
      have htk : l.take (k + 1) = l.take k ++ [x] := by rw [List.take_add_one, hx]; rfl
      have ob := ownS_bd (l := l.take k) (fun y hy => okL_T2 Hok.out y (List.mem_of_mem_take hy)) K I
      have hob : ownS K I (l.take k) ≤ 16320 := by have := ob.2; simp at this; omega
      have hos : ownS K I (l.take (k + 1)) = ownS K I (l.take k) + if isW K I x then x.T else 0 := by rw [htk, ownS_snoc]
      have has : (l.take (k + 1)).any (isW K I) = ((l.take k).any (isW K I) || isW K I x) := by rw [htk]; simp
      have HOS := Lib.hid hos
      have HAS := Lib.hid has
      obtain ⟨oo, hoo⟩ : ∃ oo, ownS K I (l.take k) = oo := ⟨_, rfl⟩
      obtain ⟨ii, hii⟩ : ∃ ii, (l.take k).any (isW K I) = ii := ⟨_, rfl⟩
      rw [hoo] at ob hob ⊢
      rw [hii] at ⊢
      have HOO := Lib.hid hoo
      have HII := Lib.hid hii
      have ob0 := ob.1
      clear hI hk hx htk hos has hoo hii ob
      by_cases hcK : x.K = K
      · by_cases hcI : x.I = I
        · have hk1 : (x.K == K) = true := by simp [hcK]
          have hk2 : (x.I == I) = true := by simp [hcI]
          have HW : Hid (isW K I x = true) := Lib.hid (by simp [isW, hk1, hk2])
          clear hcK hcI
          go_wp2_with fail
          go_quiet (fail)
          go_wp2_with fail
          go_roundg (n - (k + 1))
          case measure => have := Hk.out; omega
          case rel => exact ⟨k + 1, by have := Hk.out; omega, by go_num, by rw [HOS.out, HOO.out, HW.out]; rfl, by rw [HAS.out, HW.out]; simp, FairI.drewN HI.out _⟩
        · have hk1 : (x.K == K) = true := by simp [hcK]
          have hk2 : (x.I == I) = false := by simp [hcI]
          have HW : Hid (isW K I x = false) := Lib.hid (by simp [isW, hk1, hk2])
          clear hcK hcI
          go_wp2_with fail
          go_quiet (fail)
          go_wp2_with fail
          go_roundg (n - (k + 1))
          case measure => have := Hk.out; omega
          case rel => exact ⟨k + 1, by have := Hk.out; omega, by go_num, by rw [HOS.out, HOO.out, HW.out]; simp, by rw [HAS.out, HII.out, HW.out]; simp, FairI.drewN HI.out _⟩
      · have hk1 : (x.K == K) = false := by simp [hcK]
        have HW : Hid (isW K I x = false) := Lib.hid (by simp [isW, hk1])
        clear hcK
        go_wp2_with fail
        go_quiet (fail)
        go_wp2_with fail
        go_roundg (n - (k + 1))
        case measure => have := Hk.out; omega
        case rel => exact ⟨k + 1, by have := Hk.out; omega, by go_num, by rw [HOS.out, HOO.out, HW.out]; simp, by rw [HAS.out, HII.out, HW.out]; simp, FairI.drewN HI.out _⟩
    · have hkn : k = n := by omega
      have hta : l.take k = l := List.take_of_length_le (by have := Hlen.out; omega)
      rw [hta]
      have ob := ownS_bd (l := l) (okL_T2 Hok.out) K I
      have c2 := hI.1.cell 2
      have c3 := hI.1.cell 3
      simp at c2 c3
      clear hkn hta hk hI
      by_cases hb1 : F < 0
      · skip
        go_wp2_with fail
        refine (fixed_any _).mono ?_
        rintro e w2 ⟨rfl, hf2⟩
        go_wp2_with fail
        go_ret
        exact ⟨rfl, HI.out.2.trans hf2⟩
      · by_cases hb2 : T < F
        · skip
          go_wp2_with fail
          refine (fixed_any _).mono ?_
          rintro e w2 ⟨rfl, hf2⟩
          go_wp2_with fail
          go_ret
          exact ⟨rfl, HI.out.2.trans hf2⟩
        · by_cases hb3 : 1000000000 < T
          · skip
            go_wp2_with fail
            refine (fixed_any _).mono ?_
            rintro e w2 ⟨rfl, hf2⟩
            go_wp2_with fail
            go_ret
            exact ⟨rfl, HI.out.2.trans hf2⟩
          · skip
            have t1 := tk_good Hok.out (K := K) (I := I) (f := F) (t := F + L) (by omega) (by omega) (by omega)
            have t2 := tk_good Hok.out (K := K) (I := I) (f := F) (t := T) (by omega) (by omega) (by omega)
            have t3 := tk_good Hok.out (K := K) (I := I) (f := T) (t := T + L) (by omega) (by omega) (by omega)
            have t4 := tk_good Hok.out (K := K) (I := I) (f := F) (t := T + L) (by omega) (by omega) (by omega)
            have u1 := upS_add Hok.out K I F
            have u2 := upS_add Hok.out K I T
            rw [HLL.out] at u1 u2
            obtain ⟨own, hown⟩ : ∃ own, ownS K I l = own := ⟨_, rfl⟩
            obtain ⟨uu, huu⟩ : ∃ uu, upS l K I T - upS l K I F = uu := ⟨_, rfl⟩
            have b1 := upS_bd l Hok.out K I T (by omega) (by omega)
            have b2 := upS_bd l Hok.out K I F (by omega) (by omega)
            rw [hown] at u1 u2 ob ⊢
            have T1 : Hid (tkT l K I F (F + L) = own ∧ tkE l F (F + L) = 0) := Lib.hid ⟨by rw [t1.1]; omega, t1.2⟩
            have T2 : Hid (tkT l K I F T = uu ∧ tkE l F T = 0) := Lib.hid ⟨by rw [t2.1]; omega, t2.2⟩
            have T3 : Hid (tkT l K I T (T + L) = own ∧ tkE l T (T + L) = 0) := Lib.hid ⟨by rw [t3.1]; omega, t3.2⟩
            have T4 : Hid (tkT l K I F (T + L) = uu + own ∧ tkE l F (T + L) = 0) := Lib.hid ⟨by rw [t4.1]; omega, t4.2⟩
            have hu0 : -18000000000000000 ≤ uu ∧ uu ≤ 18000000000000000 := by omega
            have ob0 := ob.1
            have ob1 : own ≤ 16320 := by have := ob.2; have := Hlen.out; omega
            clear t1 t2 t3 t4 u1 u2 huu b1 b2 ob hown
            have hF0 : 0 ≤ F := by omega
            have hFT : F ≤ T := by omega
            have hT9 : T ≤ 1000000000 := by omega
            go_wp2_with fail
            have h1 := HT.out F (F + L) _ (H.out.fr HI.out.2)
            rw [T1.out.1, T1.out.2] at h1
            refine h1.mono ?_
            clear h1
            rintro e wA ⟨rfl, hfwA⟩
            have IwA : Hid (FairI w K I F T wA) := Lib.hid ⟨HI.out.1.fr hfwA (by simp), HI.out.2.trans hfwA⟩
            clear c0 c1 c2 c3
            have c0 := IwA.out.1.cell 0
            have c1 := IwA.out.1.cell 1
            have c2 := IwA.out.1.cell 2
            have c3 := IwA.out.1.cell 3
            simp at c0 c1 c2 c3
            go_wp2_with fail
            have h1 := HT.out F T _ (H.out.fr IwA.out.2)
            rw [T2.out.1, T2.out.2] at h1
            refine h1.mono ?_
            clear h1
            rintro e wB ⟨rfl, hfwB⟩
            have IwB : Hid (FairI w K I F T wB) := Lib.hid ⟨IwA.out.1.fr hfwB (by simp), IwA.out.2.trans hfwB⟩
            clear c0 c1 c2 c3
            have c0 := IwB.out.1.cell 0
            have c1 := IwB.out.1.cell 1
            have c2 := IwB.out.1.cell 2
            have c3 := IwB.out.1.cell 3
            simp at c0 c1 c2 c3
            go_wp2_with fail
            have h1 := HT.out T (T + L) _ (H.out.fr IwB.out.2)
            rw [T3.out.1, T3.out.2] at h1
            refine h1.mono ?_
            clear h1
            rintro e wC ⟨rfl, hfwC⟩
            have IwC : Hid (FairI w K I F T wC) := Lib.hid ⟨IwB.out.1.fr hfwC (by simp), IwB.out.2.trans hfwC⟩
            clear c0 c1 c2 c3
            have c0 := IwC.out.1.cell 0
            have c1 := IwC.out.1.cell 1
            have c2 := IwC.out.1.cell 2
            have c3 := IwC.out.1.cell 3
            simp at c0 c1 c2 c3
            go_wp2_with fail
            have h1 := HT.out F (T + L) _ (H.out.fr IwC.out.2)
            rw [T4.out.1, T4.out.2] at h1
            refine h1.mono ?_
            clear h1
            rintro e wD ⟨rfl, hfwD⟩
            have IwD : Hid (FairI w K I F T wD) := Lib.hid ⟨IwC.out.1.fr hfwD (by simp), IwC.out.2.trans hfwD⟩
            clear c0 c1 c2 c3
            have c0 := IwD.out.1.cell 0
            have c1 := IwD.out.1.cell 1
            have c2 := IwD.out.1.cell 2
            have c3 := IwD.out.1.cell 3
            simp at c0 c1 c2 c3
            go_wp2_with fail
            refine (HN.out F _ (H.out.fr IwD.out.2)).mono ?_
            rintro e wE ⟨x, er, rfl, hx, hfwE⟩
            have IwE : Hid (FairI w K I F T wE) := Lib.hid ⟨IwD.out.1.fr hfwE (by simp), IwD.out.2.trans hfwE⟩
            have hbF : badT F = false := by unfold badT; simp; omega
            have hnx : NextIs l K I F x er := by
              rcases hx with ⟨h, _⟩ | ⟨_, h, _⟩ | ⟨_, _, h⟩
              · rw [Hok.out] at h; cases h
              · rw [hbF] at h; cases h
              · exact h
            clear hx hbF c0 c1 c2 c3
            have c0 := IwE.out.1.cell 0
            have c1 := IwE.out.1.cell 1
            have c2 := IwE.out.1.cell 2
            have c3 := IwE.out.1.cell 3
            simp at c0 c1 c2 c3
            cases hany : l.any (isW K I) with
            | false =>
              obtain ⟨rfl, rfl⟩ := next_lost hany hnx
              clear hany hnx
              go_wp2_with fail
              refine (fixed_any _).mono ?_
              rintro e wF ⟨rfl, hfF⟩
              go_wp2_with fail
              go_ret
              exact ⟨rfl, IwE.out.2.trans hfF⟩
            | true =>
              obtain ⟨rfl, hx1, hx2, kk, v, hin, hoff, hv, hvK, hvI, hagain⟩ := next_found Hok.out hany hnx
              have hxb : badT x = false := by unfold badT; simp; rw [HLL.out] at hx2; omega
              have h1 := HA.out x hxb kk hin _ (H.out.fr IwE.out.2)
              rw [HLL.out] at hx2
              rw [hoff] at h1
              have Hin := Lib.hid hin
              have Hagain := Lib.hid hagain
              obtain ⟨b, off, hAd, hbl, e0, e1, e2⟩ := (H.out.fr IwE.out.2).at_ hv
              subst hAd
              have hkn : (kk : Int) < n := by have := Hlen.out; have := Hin.out.1; omega
              have hkn2 : kk < n := by omega
              have s1 : decide ((kk : Int) < 0) = false := by simp
              have s2 : decide ((n : Int) ≤ (kk : Int)) = false := by simp; omega
              have s2n : decide (n ≤ kk) = false := by simp; omega
              have s3 : decide (x < F) = false := by simp; omega
              have s4 : decide (F + L ≤ x) = false := by simp; omega
              have s5 : (v.K != K) = false := by simp [hvK]
              have s6 : (v.I != I) = false := by simp [hvI]
              have hbw := World.block_lt_of_cell? wE _ e0
              have hBw : w.heap.size < wE.heap.size := IwE.out.1.lt
              clear hany hnx hin hoff hv hvK hvI hagain hbl e2
              go_wp2_with fail
              refine h1.mono ?_
              clear h1
              rintro e wG ⟨rfl, hfG⟩
              obtain ⟨M, hM⟩ : ∃ M, x / tot l l.length = M := ⟨_, rfl⟩
              rw [hM]
              clear hM
              have IwG : Hid (FairI w K I F T wG) := Lib.hid ⟨IwE.out.1.fr hfG (by simp), IwE.out.2.trans hfG⟩
              have e0' := hfG.cell_some e0 (by simp)
              have e1' := hfG.cell_some e1 (by simp)
              have hbw' : b < wG.heap.size := World.block_lt_of_cell? wG _ e0'
              have hBw' : w.heap.size < wG.heap.size := IwG.out.1.lt
              clear c0 c1 c2 c3 e0 e1 hbw hBw
              have c0 := IwG.out.1.cell 0
              have c1 := IwG.out.1.cell 1
              have c2 := IwG.out.1.cell 2
              simp at c0 c1 c2
              go_wp2_with fail
              go_quiet (fail)
              go_wp2_with fail
              have hg := (IwG.out.2.alloc (.cells #[.int .i64 M, .int .i64 kk, .int .i64 0] 30)).drewN nq
              refine (HN.out x _ (H.out.fr hg)).mono ?_
              rintro e wH ⟨y, er, rfl, hy, hfH⟩
              have hny : NextIs l K I x y er := by
                rcases hy with ⟨h, _⟩ | ⟨_, h, _⟩ | ⟨_, _, h⟩
                · rw [Hok.out] at h; cases h
                · rw [hxb] at h; cases h
                · exact h
              obtain ⟨rfl, rfl⟩ := next_uniq Hagain.out hny
              clear hy hny
              go_wp2_with fail
              refine (fixed_any _).mono ?_
              rintro e wJ ⟨rfl, hfJ⟩
              go_wp2_with fail
              go_ret
              exact ⟨rfl, (hg.trans hfH).trans hfJ⟩

theorem fair_walk (A : Option Addr) (n cap : Nat) (l : List Win) (K I F T : Int) (w : World) (h : WinsIn w (.slice A n cap) l) (hn : n ≤ 4611686018427387904) :
    Calls Try.prog 4 #[.slice A n cap, .agg #[.int .i64 K, .int .i64 I, .int .i64 F, .int .i64 T]] w fun e w' => e = .returned (.bool true) ∧ Fr [] w w' := by
  cases hok : okL l with
  | false => exact fair_no A n cap l K I F T w h hn hok
  | true => exact fair_ok A n cap l K I F T w h hn hok
end Go.Proofs.Ytnpdljmgjpngaaa

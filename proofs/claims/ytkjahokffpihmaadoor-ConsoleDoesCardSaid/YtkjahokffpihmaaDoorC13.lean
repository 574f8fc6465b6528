/- The screen told, row by row. -/
import Derived.Test.YtkjahokffpihmaaDoorC12
import Derived.Deep.MidRow
import Derived.Laws.AppendOwn
namespace Go.Proofs.YtkjahokffpihmaaDoor
open Go.RowKit
set_option linter.unusedVariables false
set_option linter.unusedSimpArgs false
set_option maxRecDepth 100000
theorem part5 {xs : Array Value} {i : Nat} {n : Int} (h : xs[i]? = some (.int .u8 n)) (W : World) : (part 5 xs i).run Tryd.prog W = .ok (.int .u8 n) W := by
  have ha : (isAgg 5).run Tryd.prog W = .ok false W := by
    unfold isAgg
    rw [Sem.run_bind, run_underlying Tryd.underlying5 W]
    rfl
  simp [part, ha, h]
theorem eqIn_u8 (d : Nat) (a b : Int) (W : World) : (Op.equalIn (d + 1) 5 (.int .u8 a) (.int .u8 b)).run Tryd.prog W = .ok (a == b) W := by
  unfold Op.equalIn
  simp [run_underlying Tryd.underlying5]
theorem eq_list (d : Nat) {xs ys : Array Value} {a b : Nat → Int} (W : World) : ∀ l : List Nat, (∀ i ∈ l, xs[i]? = some (.int .u8 (a i)) ∧ ys[i]? = some (.int .u8 (b i))) →
    (forIn l ((none : Option Bool), ()) fun i __s => do
            let __do_lift ← part 5 xs i
            let __do_lift_1 ← part 5 ys i
            let __do_lift ← Op.equalIn (d + 1) 5 __do_lift __do_lift_1
            if __do_lift = false then pure (ForInStep.done (some false, ())) else pure (ForInStep.yield (none, ()))).run Tryd.prog W = .ok (if l.all (fun i => a i == b i) then (none, ()) else (some false, ())) W
  | [], _ => by simp
  | i :: l, h => by
    obtain ⟨h1, h2⟩ := h i (by simp)
    have ih := eq_list d W l (fun j hj => h j (by simp [hj]))
    rw [List.forIn_cons]
    simp only [Sem.run_bind, part5 h1, part5 h2, Result.andThen_ok, eqIn_u8]
    by_cases he : a i = b i
    · simp only [he, beq_self_eq_true, Bool.true_eq_false, if_false, Sem.run_pure, Result.andThen_ok, ih, List.all_cons, Bool.true_and]
    · have : (a i == b i) = false := beq_eq_false_iff_ne.2 he
      simp [this]
theorem eq_rows (d : Nat) {xs ys : Array Value} {a b : Nat → Int} (W : World) (h : ∀ i, i < 24 → xs[i]? = some (.int .u8 (a i)) ∧ ys[i]? = some (.int .u8 (b i))) : (Op.equalIn (d + 2) 65 (.agg xs) (.agg ys)).run Tryd.prog W = .ok ((List.range' 0 24).all fun i => a i == b i) W := by
  have hl := eq_list d W (List.range' 0 24) (fun i hi => h i (by simp at hi; omega))
  unfold Op.equalIn
  simp [run_underlying Tryd.underlying65]
  rw [hl]
  cases (List.range' 0 24).all fun i => a i == b i <;> simp
theorem eql_rows {xs ys : Array Value} {a b : Nat → Int} (W : World) (h : ∀ i, i < 24 → xs[i]? = some (.int .u8 (a i)) ∧ ys[i]? = some (.int .u8 (b i))) : (binOp .eql 65 (.agg xs) (.agg ys)).run Tryd.prog W = .ok (.bool ((List.range' 0 24).all fun i => a i == b i)) W := by
  have := eq_rows 9998 W h
  have e : (Op.equal 65 (.agg xs) (.agg ys)).run Tryd.prog W = .ok ((List.range' 0 24).all fun i => a i == b i) W := this
  simp [binOp, e]
/-! The rows. -/
def rowC (s : Sc) (i : Nat) : Array Value := Array.ofFn (n := 24) fun j => .int .u8 ((s.g (i * 24 + j)).toNat : Int)
def allC (s : Sc) : Array Value := Array.ofFn (n := 144) fun p => .int .u8 ((s.g p).toNat : Int)
def rowL (s : Sc) (i : Nat) : List UInt8 := (List.range 24).map fun j => s.g (i * 24 + j)
def rowB (s : Sc) (i : Nat) : ByteArray := ⟨(rowL s i).toArray⟩
def screenL (s : Sc) : List ByteArray := (List.range 6).map (rowB s)
theorem rowC_at (s : Sc) (i : Nat) {j : Nat} (hj : j < 24) : (rowC s i)[j]? = some (.int .u8 ((s.g (i * 24 + j)).toNat : Int)) := by
  unfold rowC
  rw [Array.getElem?_ofFn, dif_pos hj]
theorem rowC_size (s : Sc) (i : Nat) : (rowC s i).size = 24 := by simp [rowC]
theorem allC_size (s : Sc) : (allC s).size = 144 := by simp [allC]
theorem allC_at (s : Sc) {p : Nat} (hp : p < 144) : (allC s)[p]? = some (.int .u8 ((s.g p).toNat : Int)) := by
  unfold allC
  rw [Array.getElem?_ofFn, dif_pos hp]
theorem rowL_len (s : Sc) (i : Nat) : (rowL s i).length = 24 := by simp [rowL]
theorem rowL_at (s : Sc) (i : Nat) {j : Nat} (hj : j < 24) : (rowL s i)[j]? = some (s.g (i * 24 + j)) := by simp [rowL, hj]
theorem rowC_one (s : Sc) (i : Nat) : (rowC s i).all (·.oneCell') = true := by
  refine Array.all_eq_true_iff_forall_mem.2 fun v hv => ?_
  obtain ⟨j, hj⟩ := Array.getElem?_of_mem hv
  have := (Array.getElem?_eq_some_iff.1 hj).1
  rw [rowC_size] at this
  rw [rowC_at s i this] at hj
  injection hj with hj
  rw [← hj]
  rfl
theorem row_cut (s : Sc) {i : Nat} (hi : i < 6) : (allC s).extract (i * 24) (i * 24 + 24) = rowC s i := by
  apply Array.ext_getElem?
  intro j
  rw [Array.getElem?_extract]
  by_cases hj : j < 24
  · rw [if_pos (by rw [allC_size]; omega), allC_at s (by omega), rowC_at s i hj]
  · rw [if_neg (by omega), Array.getElem?_eq_none (by rw [rowC_size]; omega)]
theorem idx_row (s : Sc) {i : Nat} (hi : i < 6) (W : World) : (Instr.index 66 (.agg (allC s)) (.int .i64 (i : Int))).run Tryd.prog W = .ok (.agg (rowC s i)) W := by
  have hsz : (sizeOf 65).run Tryd.prog W = .ok 24 W := by kernel_rfl
  have hagg : (isAgg 65).run Tryd.prog W = .ok true W := by kernel_rfl
  have hlt : (i : Int) < 6 := by omega
  have hi' : ¬ 6 ≤ i := by omega
  simp [Instr.index, run_underlying Tryd.underlying66, asIntOf, hlt, hsz, part, hagg, row_cut s hi, hi']
theorem range_all {w : World} {c : Nat} {H : Array Value} {s : Sc} (h : Blk w c 70 (scells H s)) : w.rangeAt c 6 (allC s).toList := fun j v hv => by
  rw [Array.getElem?_toList] at hv
  have hj := (Array.getElem?_eq_some_iff.1 hv).1
  rw [allC_size] at hj
  rw [allC_at s hj] at hv
  rw [sc_byte h hj]
  exact hv
def blankB (s : Sc) (i : Nat) : Bool := (List.range' 0 24).all fun j => (((s.g (i * 24 + j)).toNat : Nat) : Int) == 32
theorem blank_eql (s : Sc) (i : Nat) (W : World) : (binOp .eql 65 (.agg (rowC s i)) (.agg blanksC)).run Tryd.prog W = .ok (.bool (blankB s i)) W :=
  eql_rows (b := fun _ => 32) W (fun j hj => ⟨rowC_at s i hj, by have := blanksC_at hj; rw [Array.getElem?_toList] at this; exact this⟩)
theorem blank_row {s : Sc} {i : Nat} (h : blankB s i = true) : rowB s i = sp24 := by
  unfold blankB at h
  rw [List.all_eq_true] at h
  have h' : ∀ j, j < 24 → s.g (i * 24 + j) = 32 := fun j hj => by
    have := h j (by simp; omega)
    simp at this
    exact UInt8.toNat_inj.1 (by simp; omega)
  unfold rowB
  have e : rowL s i = List.replicate 24 32 := by
    apply List.ext_getElem?
    intro j
    by_cases hj : j < 24
    · rw [rowL_at s i hj, h' j hj, List.getElem?_replicate, if_pos hj]
    · rw [List.getElem?_eq_none (by rw [rowL_len]; omega), List.getElem?_eq_none (by simp; omega)]
  rw [e]
  rfl
/-- A row's block, to a string. -/
theorem conv_row {W : World} {b : Nat} {s : Sc} {i : Nat} (h : Blk W b 65 (rowC s i)) : (convert 40 9 (.slice (some ⟨b, 0, none⟩) 24 24)).run Tryd.prog W = .ok (.string (rowB s i)) W := by
  have := run_convert_bytes_back (P := Tryd.prog) W 40 9 5 ⟨b, 0, none⟩ 24 (rowL s i) Tryd.underlying40 Tryd.underlying5 Tryd.underlying9 (fun j hj => by
    rw [rowL_len] at hj
    rw [addr_add, h.cell, Nat.zero_add, rowC_at s i hj]
    have := rowL_at s i hj
    rw [List.getElem?_eq_getElem (by rw [rowL_len]; exact hj)] at this
    injection this with this
    rw [this])
  rw [rowL_len] at this
  exact this
theorem own_some {w : World} {base : Nat} {e : TypeId} {size : Nat} {v : Value} {n : Nat} {xs : List Value} (h : w.ownsRow base e size v n xs) (hv : v ≠ .slice none 0 0) :
    ∃ g cap cs, v = .slice (some ⟨g, 0, none⟩) n cap ∧ base ≤ g ∧ n ≤ cap ∧ cap ≤ maxLen ∧ Blk w g e cs ∧ ∀ (j : Nat) (u : Value), xs[j]? = some u → cs[j]? = some u := by
  rcases h.2 with ⟨h1, h2⟩ | ⟨g, cap, cur, rfl, hb, hh, h3, h4, h5, h6⟩
  · exact absurd h1 hv
  · refine ⟨g, cap, cur, rfl, hb, h3, h4, hh, fun j u hu => ?_⟩
    rw [← h6, List.getElem?_take] at hu
    split at hu
    · simpa using hu
    · cases hu
theorem make_6 : ∃ Z : Array Value, Z.size = 6 ∧ ∀ w : World, (Instr.makeSlice 36 (.int .i64 0) (.int .i64 6)).run Tryd.prog w = .ok (.slice (some ⟨w.heap.size, 0, none⟩) 0 6) (w.alloc (.cells Z 9)) := by
  obtain ⟨i0, hi0, hz0, hz1, hz2⟩ := info3 Tryd.info9
  refine ⟨madeCells (Value.string ⟨#[]⟩).cells (6 * 1), by simp [madeCells], fun w => ?_⟩
  have := run_make (P := Tryd.prog) w 36 9 i0 _ Tryd.underlying36 hi0 hz0 .i64 .i64 0 6 (by omega) (by omega) (by rw [hz2]; omega) (by omega)
  rw [hz1] at this
  simpa using this
/-- The rows so far, as values. -/
def strV (s : Sc) (k : Nat) : List Value := (List.range k).map fun i => Value.string (rowB s i)
theorem strV_succ (s : Sc) (k : Nat) : strV s (k + 1) = strV s k ++ [.string (rowB s k)] := by
  unfold strV
  rw [List.range_succ, List.map_append]
  rfl
/-- A new row of strings. -/
def RowP (w : World) (l : List ByteArray) (e : Ending) (w' : World) : Prop := ∃ g cap, e = .returned (.slice (some ⟨g, 0, none⟩) l.length cap) ∧ l.length ≤ cap ∧ cap ≤ maxLen ∧ KeysAt w' g l ∧ Fr [] w w' ∧ w.heap.size ≤ g
set_option maxHeartbeats 1000000 in
theorem screen_any (w : World) (c k : Nat) (x : Con) (h : ConAt w c k x) : Calls Tryd.prog 15 #[ptr c] w (RowP w (screenL x.sc)) := by
  obtain ⟨⟨cap, hb, -⟩, -, -⟩ := h
  obtain ⟨Z, hZ, hmk⟩ := make_6
  obtain ⟨i0, hi0, hz0, hz1, hz2⟩ := info3 Tryd.info9
  have hmk' := hmk w
  have hcl := hb.lt
  have hr := range_all (hb.alloc (.cells Z 9))
  have hi66 : (Tryd.prog.info? 66).map (·.size) = some (allC x.sc).toList.length := by rw [Array.length_toList, allC_size]; kernel_rfl
  have Hown := Lib.hid (World.ownsRow_made (base := w.heap.size) (e := 9) (size := 1) w Z 6 (Nat.le_refl _) (by simp [maxLen]) (by omega))
  have HF := Lib.hid ((Fr.refl [] w).alloc (.cells Z 9))
  clear hmk hb
  obtain ⟨s, hs⟩ : ∃ s, x.sc = s := ⟨_, rfl⟩
  rw [hs] at hr hi66 ⊢
  clear hs
  obtain ⟨A, hA⟩ : ∃ A, allC s = A := ⟨_, rfl⟩
  rw [hA] at hr hi66
  have HA := Lib.hid hA
  clear hA
  go_enter Tryd.func15, Tryd.ntmps15
  go_wp2_with (first
    | (refine wpList_load_mid rfl 66 (.tmp 10) rfl c 6 rfl A.toList _ hr Tryd.underlying66 rfl hi66 ?_)
    | fail)
  clear hr hi66 hmk'
  go_loopg [3, 5, 12] 6 (fun gg l r i wr => ∃ (k cap : Nat) (B : Option Addr), k + gg = 6 ∧ i = .int .i64 k ∧ l = .slice B k cap ∧ wr.ownsRow w.heap.size 9 1 (.slice B k cap) k (strV s k) ∧ Fr [] w wr)
  case atStart => exact ⟨0, _, _, by omega, rfl, rfl, Hown.out, HF.out⟩
  case round =>
    obtain ⟨k, cp, B, hk, rfl, rfl, ho, hf⟩ := hrel
    have Hk := Lib.hid hk
    have HO := Lib.hid ho
    have HFr := Lib.hid hf
    by_cases hlt : k < 6
    · have hlt' : (k : Int) < 6 := by omega
      have hk0 : (0 : Int) ≤ (k : Int) := by omega
      have hidx := idx_row s hlt wr
      rw [HA.out] at hidx
      have h1R := Lib.hid (rowC_one s k)
      have hzR := Lib.hid (rowC_size s k)
      have HCV := Lib.hid (fun W b (h : Blk W b 65 (rowC s k)) => conv_row h)
      have HEQ := Lib.hid (blank_eql s k)
      have HLD : Hid (∀ W b, Blk W b 65 (rowC s k) → (Instr.loadAt 65 (.pointer (some ⟨b, 0, none⟩))).run Tryd.prog W = .ok (.agg (rowC s k)) W) := Lib.hid fun W b h => by
        have := run_loadAt_mid (P := Tryd.prog) W b 0 65 (rowC s k).toList _ (fun j v hv => by rw [h.cell, Nat.zero_add]; rw [Array.getElem?_toList] at hv; exact hv) Tryd.underlying65 rfl (by rw [Array.length_toList, rowC_size]; kernel_rfl)
        simpa using this
      have hiR : Hid ((Tryd.prog.info? 65).map (·.size) = some (rowC s k).size) := Lib.hid (by rw [rowC_size]; kernel_rfl)
      have HB := Lib.hid (fun h : blankB s k = true => blank_row h)
      have HSV := Lib.hid (strV_succ s k)
      clear ho hf hk
      generalize rowC s k = R at *
      obtain ⟨Rl, rfl⟩ : ∃ l : List Value, R = l.toArray := ⟨R.toList, by simp⟩
      go_wp2_with (first
        | (refine wpList_store_blk rfl 65 (.tmp 5) (.tmp 14) rfl rfl wr.heap.size 0 Rl.toArray rfl rfl 65 _ (Blk.new wr 65 _) (by rw [hzR.out]; simp) hiR.out h1R.out ?_; intro w1 b1 f1; rw [lay_full _ _ (by rw [hzR.out]; simp)] at b1)
        | fail)
      have HF1 := Lib.hid ((HFr.out.alloc _).step f1 (fun j hj => by simp at hj; right; have := HFr.out.size; omega))
      have hr1 : w1.rangeAt wr.heap.size 0 Rl := fun j v hv => by rw [b1.cell, Nat.zero_add]; simpa using hv
      have hu65 := Tryd.underlying65
      have hl1 : Rl.length = 24 := by have := hzR.out; simpa using this
      have hl2 : (Tryd.prog.info? 65).map (·.size) = some Rl.length := by have := hiR.out; simpa using this
      have heq := HEQ.out
      have HC := Lib.hid (blanks_any w1.drew)
      have HO1 := Lib.hid (own_fr (own_fr HO.out ((Fr.refl [] wr).alloc _) (by simp)) f1 (fun j hj cs hB => by simp at hj; subst hj; exact absurd (hB.eq (Blk.new wr 65 _)).1 (by decide)))
      generalize blankB s k = bb at *
      go_region_held3 (fun W => W.rangeAt wr.heap.size 0 Rl) (first | exact hr1 | exact kk) (first
        | (go_at_call 36; refine HC.out.mono ?_; rintro e w2 ⟨rfl, hf2⟩; have b2 : Blk w2 wr.heap.size 65 Rl.toArray := (b1.drew).fr hf2 (by simp); have kk : w2.rangeAt wr.heap.size 0 Rl := (fun j v hv => by rw [b2.cell, Nat.zero_add]; simpa using hv)))
      have HF2 := Lib.hid (HF1.out.drew.trans hf2)
      have HO2 := Lib.hid (own_fr (own_fr HO1.out (Fr.refl [] w1).drew (by simp)) hf2 (by simp))
      have HCV2 := HCV.out w2 wr.heap.size b2
      cases bb
      · have HO3 := Lib.hid (own_fr HO2.out ((Fr.refl [] w2).alloc (.cells #[.string (rowB s k)] 9)) (by simp))
        have HN := Lib.hid (news1 (w := w2.alloc (.cells #[.string (rowB s k)] 9)) (b := w2.heap.size) (x := .string (rowB s k)) (by simp))
        have hm1 : k + 1 ≤ maxLen := by simp only [maxLen]; omega
        have hm2 : (k + 1) * 16 ≤ 140737488355328 := by omega
        have hb : w.heap.size ≤ w2.heap.size + 1 := by have := HF2.out.size; omega
        clear hf2 b1 b2 hr1 kk heq f1
        go_wp2_with (first
          | fail
          | (at_builtin; go_must (refine wpList_append_own _ rfl (.tmp 22) (.tmp 25) 36 rfl w.heap.size 9 i0 (.string ⟨#[]⟩) 1 16 Tryd.underlying36 hi0 hz0 hz1 hz2 rfl (Nat.succ_pos 0) (.slice B k cp) k (strV s k) rfl HO3.out ⟨w2.heap.size, 0, none⟩ 1 1 [.string (rowB s k)] rfl rfl HN.out (by simp [Value.oneCell']) hm1 hm2 (by simp; omega) ?_; intro v3 w3 ho3 hg3 hn3; obtain ⟨g3, c3, rfl⟩ := own_succ ho3; have HO4 := Lib.hid ho3; have HF4 := Lib.hid ((HF2.out.alloc _).own HO3.out hg3); clear ho3 hg3 hn3))
          | fail)
        go_roundg (6 - (k + 1))
        case measure => have := Hk.out; omega
        case rel => exact ⟨k + 1, c3, _, by have := Hk.out; omega, by go_num, rfl, by rw [HSV.out]; exact HO4.out, HF4.out⟩
      · have HR := Lib.hid (HB.out rfl)
        have HO3 := Lib.hid (own_fr HO2.out ((Fr.refl [] w2).alloc (.cells #[.string (sp24)] 9)) (by simp))
        have HN := Lib.hid (news1 (w := w2.alloc (.cells #[.string (sp24)] 9)) (b := w2.heap.size) (x := .string (sp24)) (by simp))
        have hm1 : k + 1 ≤ maxLen := by simp only [maxLen]; omega
        have hm2 : (k + 1) * 16 ≤ 140737488355328 := by omega
        have hb : w.heap.size ≤ w2.heap.size + 1 := by have := HF2.out.size; omega
        clear hf2 b1 b2 hr1 kk heq f1
        go_wp2_with (first
          | (go_at_call 37; refine (rep24 _).mono ?_; rintro e w9 ⟨rfl, rfl⟩)
          | (at_builtin; go_must (refine wpList_append_own _ rfl (.tmp 18) (.tmp 20) 36 rfl w.heap.size 9 i0 (.string ⟨#[]⟩) 1 16 Tryd.underlying36 hi0 hz0 hz1 hz2 rfl (Nat.succ_pos 0) (.slice B k cp) k (strV s k) rfl HO3.out ⟨w2.heap.size, 0, none⟩ 1 1 [.string (sp24)] rfl rfl HN.out (by simp [Value.oneCell']) hm1 hm2 (by simp; omega) ?_; intro v3 w3 ho3 hg3 hn3; obtain ⟨g3, c3, rfl⟩ := own_succ ho3; have HO4 := Lib.hid ho3; have HF4 := Lib.hid ((HF2.out.alloc _).own HO3.out hg3); clear ho3 hg3 hn3))
          | fail)
        rw [← HR.out] at HO4
        go_roundg (6 - (k + 1))
        case measure => have := Hk.out; omega
        case rel => exact ⟨k + 1, c3, _, by have := Hk.out; omega, by go_num, rfl, by rw [HSV.out]; exact HO4.out, HF4.out⟩
    · obtain rfl : k = 6 := by omega
      have hv : Value.slice B 6 cp ≠ .slice none 0 0 := fun h => by injection h with _ h _; omega
      obtain ⟨g, cp', cs, he, q1, q2, q3, q4, q5⟩ := own_some ho hv
      injection he with he1 _ he2
      subst he1; subst he2
      have HKA : Hid (KeysAt wr g (screenL s)) := Lib.hid ⟨cs, q4, fun i t hi => q5 i _ (by
        unfold screenL at hi
        unfold strV
        rw [List.getElem?_map] at hi ⊢
        cases hr : (List.range 6)[i]? with
        | none => rw [hr] at hi; cases hi
        | some j => rw [hr] at hi; simp at hi; simp [hi])⟩
      have HQ := Lib.hid (And.intro q1 (And.intro q2 q3))
      clear ho hf q4 q5 hv hk
      go_wp2_with fail
      go_ret
      exact ⟨g, cp, rfl, HQ.out.2.1, HQ.out.2.2, HKA.out, HFr.out, HQ.out.1⟩
end Go.Proofs.YtkjahokffpihmaaDoor

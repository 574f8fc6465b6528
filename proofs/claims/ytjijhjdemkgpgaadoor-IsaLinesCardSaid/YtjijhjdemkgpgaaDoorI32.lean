/- IsaLines, walked. -/
import Derived.Test.YtjijhjdemkgpgaaDoorI25
import Derived.Test.YtjijhjdemkgpgaaDoorI30
import Derived.Deep.DeepCutAuto
import Derived.Deep.AppendLies
import Derived.Deep.RegionLaw
import Derived.Lib.AppendStr
namespace Go.Proofs.YtjijhjdemkgpgaaDoor
open Go.RowKit Go.Maps
set_option linter.unusedVariables false
set_option linter.unusedSimpArgs false
set_option maxRecDepth 100000
section
variable {P : Program} {w : World}
/-- Where the bytes of a text that is appended come to lie. -/
theorem run_append_str_at (base : Nat) (t u ty e : TypeId) (i : TypeInfo) (ht : P.underlying t = some (.slice e)) (hu : P.underlying u = some .string) (hi : P.info? e = some i) (hz : i.zero = some (.int .u8 0)) (hsize : i.size = 1) (hby : i.bytes = 1)
    (v : Value) (n : Nat) (xs : List Value) (hown : w.ownsRow base e 1 v n xs) (s : ByteArray) (h63 : n + s.size ≤ maxLen) (hbytes : n + s.size ≤ 140737488355328) (hbase : base ≤ w.heap.size) :
    ∃ v' w', (Builtin.append_ #[t, u] ty #[v, .string s]).run P w = .ok v' w' ∧ w'.ownsRow base e 1 v' (n + s.size) (xs ++ Lib.strCells s) ∧ w.grownBy w' v.ownBlock ∧ (v' = .slice none 0 0 ↔ v = .slice none 0 0 ∧ s.size = 0) ∧ (v'.ownBlock = v.ownBlock ∨ v'.ownBlock = some w.heap.size) := by
  obtain ⟨v', w', hr, h2, h3, h4⟩ := Lib.run_append_own_string (P := P) w base t u ty e i ht hu hi hz hsize hby v n xs hown s h63 hbytes hbase
  refine ⟨v', w', hr, h2, h3, h4, ?_⟩
  rcases hown.2 with ⟨rfl, rfl⟩ | ⟨g, cap, cur, rfl, hbg, hg, hnc, hcm, hcs, -⟩
  · by_cases hm : s.size = 0
    · left
      rw [h4.2 ⟨rfl, hm⟩]
    · right
      rw [run_append_nil_string (P := P) w t u ty e i _ ht hu hi hz s (by omega) (by omega) (by rw [hby]; omega)] at hr
      injection hr with e1 _
      rw [← e1]
      rfl
  · by_cases hroom : n + s.size ≤ cap
    · left
      rw [Lib.run_append_room_string (P := P) w t u ty e i ht hu hi hsize g n cap cur hg s hroom (by omega)] at hr
      injection hr with e1 _
      rw [← e1]
      rfl
    · right
      rw [Lib.run_append_grow_string (P := P) w t u ty e i _ ht hu hi hz ⟨g, 0, none⟩ n cap xs (by rw [hsize]; have := hown.1; omega) (hown.cells rfl) s (by omega) (by simp only [maxLen] at h63; omega) (by rw [hby]; exact growslice_fits (by omega) (by omega))] at hr
      injection hr with e1 _
      rw [← e1]
      rfl
theorem step_append_string {ops : Array Oper} {o : Oper} {a : Act} {K : Act → World → Prop} {Q : Exit → Act → World → Prop} {E : Prop} (hgd : o.guard = none) (s x : Operand) (t u : TypeId)
    (ho : o.op = .call { callee := .builtin .append, args := #[s, x], argTypes := #[t, u] })
    (base : Nat) (e : TypeId) (i : TypeInfo) (ht : P.underlying t = some (.slice e)) (hu : P.underlying u = some .string) (hi : P.info? e = some i) (hz : i.zero = some (.int .u8 0)) (hsize : i.size = 1) (hby : i.bytes = 1)
    (v : Value) (n : Nat) (xs : List Value) (hs : a.eval s = v) (hown : w.ownsRow base e 1 v n xs) (str : ByteArray) (hx : a.eval x = .string str)
    (h63 : n + str.size ≤ maxLen) (hbytes : n + str.size ≤ 140737488355328) (hbase : base ≤ w.heap.size)
    (h : ∀ v' w', w'.ownsRow base e 1 v' (n + str.size) (xs ++ Lib.strCells str) → w.grownBy w' v.ownBlock → (v' = .slice none 0 0 ↔ v = .slice none 0 0 ∧ str.size = 0) → (v'.ownBlock = v.ownBlock ∨ v'.ownBlock = some w.heap.size) → K (a.put o.dst v') w') :
    if Region.wanted o (yielded ops a.tmps) = true then Oper.wp P o a w K Q else E := by
  have hw : Region.wanted o (yielded ops a.tmps) = true := by simp [Region.wanted, hgd]
  rw [if_pos hw]
  obtain ⟨v', w', hr, h2, h3, h4, h5⟩ := run_append_str_at (P := P) (w := w) base t u o.type e i ht hu hi hz hsize hby v n xs hown str h63 hbytes hbase
  unfold Oper.wp execOp
  simp only [ho, resolve, invoke, builtin, Sem.run_bind, Sem.run_pure, Result.andThen_ok, List.map_toArray, List.map_cons, List.map_nil, hs, hx, hr]
  exact h v' w' h2 h3 h4 h5
theorem wpList_append_string {ops : Array Oper} {rest : List Oper} {o : Oper} {a : Act} {Q : Exit → Act → World → Prop} (hgd : o.guard = none) (s x : Operand) (t u : TypeId)
    (ho : o.op = .call { callee := .builtin .append, args := #[s, x], argTypes := #[t, u] })
    (base : Nat) (e : TypeId) (i : TypeInfo) (ht : P.underlying t = some (.slice e)) (hu : P.underlying u = some .string) (hi : P.info? e = some i) (hz : i.zero = some (.int .u8 0)) (hsize : i.size = 1) (hby : i.bytes = 1)
    (v : Value) (n : Nat) (xs : List Value) (hs : a.eval s = v) (hown : w.ownsRow base e 1 v n xs) (str : ByteArray) (hx : a.eval x = .string str)
    (h63 : n + str.size ≤ maxLen) (hbytes : n + str.size ≤ 140737488355328) (hbase : base ≤ w.heap.size)
    (h : ∀ v' w', w'.ownsRow base e 1 v' (n + str.size) (xs ++ Lib.strCells str) → w.grownBy w' v.ownBlock → (v' = .slice none 0 0 ↔ v = .slice none 0 0 ∧ str.size = 0) → (v'.ownBlock = v.ownBlock ∨ v'.ownBlock = some w.heap.size) → wpList P ops Q rest (a.put o.dst v') w') : wpList P ops Q (o :: rest) a w := by
  refine wpList_plain hgd fun K hK => ?_
  obtain ⟨v', w', hr, h2, h3, h4, h5⟩ := run_append_str_at (P := P) (w := w) base t u o.type e i ht hu hi hz hsize hby v n xs hown str h63 hbytes hbase
  unfold Oper.wp execOp
  simp only [ho, resolve, invoke, builtin, Sem.run_bind, Sem.run_pure, Result.andThen_ok, List.map_toArray, List.map_cons, List.map_nil, hs, hx, hr]
  exact hK _ _ (h v' w' h2 h3 h4 h5)
end
theorem own_some {w : World} {B e n : Nat} {v : Value} {xs : List Value} (h : w.ownsRow B e 1 v n xs) (hv : v ≠ .slice none 0 0) : ∃ g, v.ownBlock = some g ∧ B ≤ g ∧ g < w.heap.size := by
  rcases h.2 with ⟨rfl, -⟩ | ⟨g, cap, cur, rfl, hb, hg, -⟩
  · exact absurd rfl hv
  · exact ⟨g, rfl, hb, (Array.getElem?_eq_some_iff.1 hg).1⟩
theorem rows_at {ws : List W4} {k : Nat} {x : W4} (h : ws[k]? = some x) : rowsB ws = rowsB (ws.take k) ++ ((lineOf x ++ [10]) ++ rowsB (ws.drop (k + 1))) := by
  obtain ⟨hl, rfl⟩ := List.getElem?_eq_some_iff.1 h
  have e : ws = ws.take k ++ (ws[k] :: ws.drop (k + 1)) := by rw [← List.drop_eq_getElem_cons hl, List.take_append_drop]
  conv => lhs; rw [e]
  unfold rowsB
  rw [List.flatMap_append, List.flatMap_cons]
theorem rows_take {ws : List W4} {k : Nat} {x : W4} (h : ws[k]? = some x) : rowsB (ws.take (k + 1)) = rowsB (ws.take k) ++ (lineOf x ++ [10]) := by
  rw [List.take_add_one, h]
  exact rowsB_snoc _ _
theorem bytes_at {ws : List W4} {k : Nat} {x : W4} (h : ws[k]? = some x) : bytesW ws = bytesW (ws.take k) ++ (x.l ++ bytesW (ws.drop (k + 1))) := by
  obtain ⟨hl, rfl⟩ := List.getElem?_eq_some_iff.1 h
  have e : ws = ws.take k ++ (ws[k] :: ws.drop (k + 1)) := by rw [← List.drop_eq_getElem_cons hl, List.take_append_drop]
  conv => lhs; rw [e]
  unfold bytesW
  rw [List.flatMap_append, List.flatMap_cons]
abbrev rL (ws : List W4) (k : Nat) : Nat := (rowsB (ws.take k)).length
abbrev sL (ws : List W4) (k : Nat) : List Value := (ws.take k).map fun x => Value.string ⟨(lineOf x ++ [10]).toArray⟩
theorem sL_snoc {ws : List W4} {k : Nat} {x : W4} (h : ws[k]? = some x) : sL ws (k + 1) = sL ws k ++ [.string ⟨(lineOf x ++ [10]).toArray⟩] := by
  unfold sL
  rw [List.take_add_one, h, List.map_append]
  rfl
theorem rL_snoc {ws : List W4} {k : Nat} {x : W4} (h : ws[k]? = some x) : rL ws (k + 1) = rL ws k + ((lineOf x).length + 1) := by
  unfold rL
  rw [rows_take h, List.length_append, List.length_append]
  rfl
theorem rL_all (ws : List W4) : rL ws ws.length = (rowsB ws).length := by unfold rL; rw [List.take_length]
theorem rL_lt {ws : List W4} {k : Nat} {x : W4} (h : ws[k]? = some x) : rL ws k + (lineOf x).length + 1 ≤ (rowsB ws).length := by
  unfold rL
  rw [rows_at h]
  simp only [List.length_append, List.length_cons, List.length_nil]
  omega
theorem byte_at {ws : List W4} {k : Nat} {x : W4} (h : ws[k]? = some x) {j : Nat} (hj : j ≤ (lineOf x).length) : (rowsB ws)[rL ws k + j]? = (lineOf x ++ [10])[j]? := by
  unfold rL
  rw [rows_at h, List.getElem?_append_right (by omega), Nat.add_sub_cancel_left, List.getElem?_append_left (by rw [List.length_append]; simp only [List.length_cons, List.length_nil]; omega)]
theorem ext_at {ws : List W4} {k : Nat} {x : W4} (h : ws[k]? = some x) : ((rowsB ws).drop (rL ws k)).take ((lineOf x).length + 1) = lineOf x ++ [10] := by
  unfold rL
  rw [rows_at h, List.drop_left' rfl]
  exact List.take_left' (by rw [List.length_append]; rfl)
theorem ext_b {ws : List W4} {k : Nat} {x : W4} (h : ws[k]? = some x) : ((bytesW ws).drop (4 * k)).take 4 = x.l := by
  obtain ⟨hl, -⟩ := List.getElem?_eq_some_iff.1 h
  have e : (bytesW (ws.take k)).length = 4 * k := by rw [bytesW_len, List.length_take]; omega
  rw [bytes_at h, List.drop_left' e]
  exact List.take_left' rfl
/-- A chunk's listing. -/
theorem list_one (x : W4) : listP x.l = (lineOf x ++ [10], 0) := by
  obtain ⟨a, b, c, d⟩ := x
  have hl : (W4.l ⟨a, b, c, d⟩).length = 4 := rfl
  unfold listP
  rw [hl, if_neg (by decide), if_neg (by decide)]
  show (lineOf ⟨a, b, c, d⟩ ++ [10] ++ [], (0 : Int)) = _
  rw [List.append_nil]
theorem list_rows {p : List UInt8} {N : Nat} (h : (listP p).2 = 0) : p.length ≤ 4096 ∧ p.length = 4 * (chunks p).length ∧ bytesW (chunks p) = p ∧ (listP p).1 = rowsB (chunks p) := by
  unfold listP at h ⊢
  by_cases h1 : 4096 < p.length
  · rw [if_pos h1] at h
    exact absurd (show (94 : Int) = 0 from h) (by decide)
  · rw [if_neg h1] at h ⊢
    by_cases h2 : p.length % 4 ≠ 0
    · rw [if_pos h2] at h
      exact absurd (show (91 : Int) = 0 from h) (by decide)
    · rw [if_neg h2]
      obtain ⟨e1, e2⟩ := chunks_bytes (p.length / 4) p (by omega)
      exact ⟨by omega, by rw [e2]; omega, e1, rfl⟩
/-- Two rows of the function's own: one grows, the other stays. -/
theorem two_rows {wr w5 : World} {B e m : Nat} {a b a' : Value} {ys : List Value} {Pr : Prop} (ha : a ≠ .slice none 0 0) (hb : wr.ownsRow B e 1 b m ys) (hnb : b ≠ .slice none 0 0) (hne : a.ownBlock ≠ b.ownBlock) (hg : wr.grownBy w5 a.ownBlock) (hn : a' = .slice none 0 0 ↔ a = .slice none 0 0 ∧ Pr) (hA : a'.ownBlock = a.ownBlock ∨ a'.ownBlock = some wr.heap.size) :
    w5.ownsRow B e 1 b m ys ∧ a' ≠ .slice none 0 0 ∧ a'.ownBlock ≠ b.ownBlock := by
  refine ⟨hb.kept hg (.inr fun e => hne e.symm), fun e => ha (hn.1 e).1, ?_⟩
  obtain ⟨g, hgb, -, hl⟩ := own_some hb hnb
  rcases hA with h | h
  · rw [h]; exact hne
  · rw [h, hgb]
    intro e
    injection e with e
    omega
theorem add0 (g j : Nat) : (⟨g, 0, none⟩ : Addr).add j = ⟨g, j, none⟩ := by unfold Addr.add; split <;> simp_all
theorem bC_str (a b : List UInt8) : bC a ++ Lib.strCells ⟨b.toArray⟩ = bC (a ++ b) := by
  unfold bC Lib.strCells
  simp only [List.map_append]
theorem bytesW_snoc (ws : List W4) (x : W4) : bytesW (ws ++ [x]) = bytesW ws ++ x.l := by
  unfold bytesW
  rw [List.flatMap_append]
  simp
/-- Numbers that came in. -/
def NumsAt (w : World) (A : Option Addr) (n : Nat) (z : Nat → Int) : Prop := ∀ i, i < n → ∃ b off, A = some ⟨b, off, none⟩ ∧ w.cell? ⟨b, off + i, none⟩ = some (.int .i64 (z i))
set_option maxHeartbeats 16000000 in
theorem lines_walk (s0 : ByteArray) (A : Option Addr) (n cap : Nat) (z : Nat → Int) (h0 : s0.size ≤ 140737488351232) (w : World) (hw : Std w) (hr : NumsAt w A n z) : Calls Tryd.prog 7 #[.string s0, .slice A n cap] w fun e w' => e = .returned (.bool true) ∧ Fr [] w w' := by
  obtain ⟨i0, hi0, hz0, hz1, hz2⟩ : ∃ i, Tryd.prog.info? 5 = some i ∧ i.zero = some (.int .u8 0) ∧ i.size = 1 ∧ i.bytes = 1 := ⟨_, rfl, rfl, rfl, rfl⟩
  obtain ⟨j0, hj0, hy0, hy1, hy2⟩ : ∃ i, Tryd.prog.info? 9 = some i ∧ i.zero = some (.string ⟨#[]⟩) ∧ i.size = 1 ∧ i.bytes = 16 := ⟨_, rfl, rfl, rfl, rfl⟩
  have HS := Lib.hid hw
  have HFx := Lib.hid (fun W hW => fixed_any W hW)
  have HLi := Lib.hid (fun W hW => List_any s0 W hW)
  have HNu := Lib.hid hr
  clear hw hr
  have hsz : s0.data.toList.length = s0.size := rfl
  by_cases hok : (listP s0.data.toList).2 = 0
  · obtain ⟨p1, p2, p3, p4⟩ := list_rows (N := 0) hok
    rw [hok, p4] at HLi
    rw [hsz] at p1 p2
    generalize hws : chunks s0.data.toList = ws at *
    obtain ⟨T, hT⟩ : ∃ T : ByteArray, T = ⟨(rowsB ws).toArray⟩ := ⟨_, rfl⟩
    have hTl : T.data.toList = rowsB ws := by rw [hT]
    have hTs : T.size = (rowsB ws).length := by rw [← hTl]; rfl
    rw [← hT] at HLi
    have HTl := Lib.hid hTl
    have HTs := Lib.hid hTs
    have HP3 := Lib.hid p3
    have HP2 := Lib.hid p2
    obtain ⟨N, hN⟩ : ∃ N, N = ws.length := ⟨_, rfl⟩
    have HN := Lib.hid hN
    have HN4 : Hid (N ≤ 1024) := Lib.hid (by omega)
    have HT30 : Hid (T.size ≤ 30 * N) := Lib.hid (by have := rows_len ws; omega)
    clear hok p1 p2 p3 p4 hT hTl hTs hN hws
    go_enter Tryd.func7, Tryd.ntmps7
    go_wp2_with (first
      | (go_at_call 14; refine (HLi.out _ HS.out).mono ?_; rintro e w1 ⟨rfl, hf⟩; have G1 := Lib.hid hf; clear hf)
      | (go_at_call 8; refine (HFx.out _ (HS.out.fr G1.out)).mono ?_; rintro e w2 ⟨rfl, hf⟩; have G2 := Lib.hid (G1.out.trans hf); clear hf)
      | fail)
    have HO0 : Hid ((w2.alloc (.cells #[] 9)).ownsRow w2.heap.size 9 1 (.slice (some ⟨w2.heap.size, 0, none⟩) 0 0) 0 []) := Lib.hid (World.ownsRow_made w2 #[] 0 (Nat.le_refl _) (Nat.zero_le _) (by simp))
    have HF0 : Hid (Fr [] w2 (w2.alloc (.cells #[] 9))) := Lib.hid ((Fr.refl [] w2).alloc _)
    go_loopg [7, 8, 9] T.size (fun gg v7 v8 v9 wr => ∃ (k j : Nat), k ≤ N ∧ (∀ x, ws[k]? = some x → j ≤ (lineOf x).length) ∧ (k = N → j = 0) ∧ rL ws k + j + gg = T.size ∧ v8 = .int .i64 (rL ws k : Nat) ∧ v9 = .int .i64 ((rL ws k + j : Nat) : Int) ∧ wr.ownsRow w2.heap.size 9 1 v7 k (sL ws k) ∧ v7 ≠ .slice none 0 0 ∧ Fr [] w2 wr)
    case atStart => exact ⟨0, 0, Nat.zero_le _, fun _ _ => Nat.zero_le _, fun _ => rfl, by simp [rL, rowsB], rfl, rfl, HO0.out, by simp, HF0.out⟩
    case round =>
      obtain ⟨k, j, hk, hj, hjN, hgk, rfl, rfl, hown, hne, hf⟩ := hrel
      have Hk := Lib.hid hk
      have Hj := Lib.hid hj
      have HjN := Lib.hid hjN
      have Hgk := Lib.hid hgk
      have HOw := Lib.hid hown
      have HNe := Lib.hid hne
      have Hf := Lib.hid hf
      by_cases hkn : k < N
      · obtain ⟨x, hx⟩ : ∃ x, ws[k]? = some x := ⟨_, List.getElem?_eq_getElem (by have := HN.out; omega)⟩
        have hjx := hj x hx
        have hlt := rL_lt hx
        have hts := HTs.out
        have hI : rL ws k + j < T.size := by omega
        obtain ⟨I, hIe⟩ : ∃ I, rL ws k + j = I := ⟨_, rfl⟩
        obtain ⟨F, hFe⟩ : ∃ F, rL ws k = F := ⟨_, rfl⟩
        have hbyte := byte_at hx hjx
        have hI1 : (I : Int) < (T.size : Int) := by omega
        have hI0 : (0 : Int) ≤ (I : Int) := by omega
        have hI2 : I < T.size := by omega
        have hT30 := HT30.out
        have hN4 := HN4.out
        have hwk : IntKind.i64.wrap ((I : Int) + 1) = (I : Int) + 1 := IntWalk.i64_in _ (by omega)
        by_cases hjl : j < (lineOf x).length
        · obtain ⟨d, hd⟩ : ∃ d, (lineOf x)[j]? = some d := ⟨_, List.getElem?_eq_getElem hjl⟩
          rw [List.getElem?_append_left hjl, hd] at hbyte
          have hdc := bget HTl.out (i := rL ws k + j) hbyte
          rw [hIe] at hdc
          have hd10 : d ≠ 10 := fun e => line_no10 x (by rw [← e]; exact List.mem_of_getElem? hd)
          have hq : ((d.toNat : Int) == 10) = false := by
            rw [beq_eq_false_iff_ne]
            intro e
            apply hd10
            apply UInt8.toNat_inj.1
            show d.toNat = 10
            omega
          rw [hIe]
          clear hk hj hjN hown hne hf hbyte hd hd10 hlt hts hI hT30 hN4 hgk
          go_wp2_with fail
          go_roundg (T.size - (I + 1))
          case measure => have := Hgk.out; omega
          case rel => exact ⟨k, j + 1, Hk.out, fun y hy => by (have e : y = x := Option.some.inj (hy.symm.trans hx)); rw [e]; omega, fun e => by omega, by omega, by rw [hFe], by rw [← Nat.add_assoc, hIe]; go_num, HOw.out, HNe.out, Hf.out⟩
        · have hje : j = (lineOf x).length := by omega
          rw [List.getElem?_append_right (by omega), hje, Nat.sub_self] at hbyte
          have hdc := bget HTl.out (i := rL ws k + j) (b := 10) (by rw [hje]; exact hbyte)
          rw [hIe] at hdc
          have hext : T.extract F (I + 1) = ⟨(lineOf x ++ [10]).toArray⟩ := bext (by
            rw [Lib.extract_data, HTl.out, ← hFe, ← hIe, show rL ws k + j + 1 - rL ws k = (lineOf x).length + 1 by omega]
            exact ext_at hx)
          have hFI : (F : Int) ≤ (I : Int) + 1 := by omega
          have hF0 : (0 : Int) ≤ (F : Int) := by omega
          have hI3 : (I : Int) + 1 ≤ (T.size : Int) := by omega
          have hI4 : ((I : Int) + 1).toNat = I + 1 := by omega
          have hm1 : k + 1 ≤ maxLen := by simp only [maxLen]; omega
          have hm2 : (k + 1) * 16 ≤ 140737488355328 := by omega
          obtain ⟨RW, hRW⟩ : ∃ RW : ByteArray, RW = ⟨(lineOf x ++ [10]).toArray⟩ := ⟨_, rfl⟩
          rw [← hRW] at hext
          have HRW := Lib.hid hRW
          have HO3 := Lib.hid (own_fr hown ((Fr.refl [] wr).alloc (.cells #[.string RW] 9)) (by simp))
          have HNw := Lib.hid (World.news_of_block (Blk.new wr 9 #[.string RW]))
          have HB9 : Hid (w2.heap.size ≤ (wr.alloc (.cells #[.string RW] 9)).heap.size) := Lib.hid (by have := hf.size; simp; omega)
          have HSn := Lib.hid (sL_snoc hx)
          have HRn := Lib.hid (rL_snoc hx)
          rw [hIe]
          have hFe' := hFe
          unfold rL at hFe'
          rw [hFe]
          have hJe := Lib.hid hje
          clear hk hj hjN hown hne hf hbyte hlt hts hI hT30 hN4 hgk hRW hje hFe' hjx hjl
          go_wp2_with (first
            | (at_builtin; go_must (refine wpList_append_own _ rfl _ _ 43 rfl w2.heap.size 9 j0 (.string ⟨#[]⟩) 1 16 Tryd.underlying43 hj0 hy0 hy1 hy2 rfl (Nat.succ_pos 0) _ k (sL ws k) rfl HO3.out ⟨wr.heap.size, 0, none⟩ 1 1 [.string RW] rfl rfl HNw.out (by simp [Value.oneCell']) hm1 hm2 HB9.out ?_; intro v3 w3 ho3 hg3 hn3; have HO4 := Lib.hid ho3; have HN4 := Lib.hid hn3; have HF4 := Lib.hid ((Hf.out.alloc _).own HO3.out hg3); clear ho3 hg3 hn3))
            | fail)
          go_roundg (T.size - (I + 1))
          case measure => have := Hgk.out; omega
          case rel => exact ⟨k + 1, 0, by omega, fun y hy => Nat.zero_le _, fun _ => rfl, by rw [HRn.out]; have := hJe.out; omega, by rw [HRn.out]; have := hJe.out; go_num, by rw [HRn.out]; have := hJe.out; go_num, by rw [HSn.out, ← HRW.out]; exact HO4.out, fun e => by have := HN4.out.1 e; exact absurd this.2 (by decide), HF4.out⟩
      · obtain rfl : k = N := by omega
        have hj0' := hjN rfl
        subst hj0'
        have hall : rL ws k = T.size := by rw [HN.out, rL_all, HTs.out]
        rw [Nat.add_zero, hall]
        have hTT : ¬ (T.size : Int) < (T.size : Int) := by omega
        have hTq : ((T.size : Int) != (T.size : Int)) = false := by simp
        have hdiv : Int.tdiv (s0.size : Int) 4 = (k : Int) := by
          have h2 := HP2.out
          rw [HN.out, h2]
          rw [Int.tdiv_eq_ediv_of_nonneg (by omega)]
          omega
        have hdw : IntKind.i64.wrap (Int.tdiv (s0.size : Int) 4) = (k : Int) := by rw [hdiv]; exact IntWalk.i64_in _ (by have := HN4.out; omega)
        have hkq : ((k : Int) != (s0.size : Int) / 4) = false := by rw [bne_eq_false_iff_eq]; have h2 := HP2.out; have h3 := HN.out; omega
        obtain ⟨g, cp, rfl, hc⟩ := own_form hown hne
        have hrow : ∀ (q : Nat) (x : W4), ws[q]? = some x → ∀ W, Fr [] wr W → W.cell? ⟨g, q, none⟩ = some (.string ⟨(lineOf x ++ [10]).toArray⟩) := fun q x hx W hW => by
          have h := hc q (.string ⟨(lineOf x ++ [10]).toArray⟩) (by
            unfold sL
            rw [HN.out, List.take_length, List.getElem?_map, hx]
            rfl)
          have e : (⟨g, 0, none⟩ : Addr).add q = ⟨g, q, none⟩ := by unfold Addr.add; split <;> simp_all
          rw [e] at h
          exact hW.cell_some h (by simp)
        have HRow := Lib.hid hrow
        have HFw := Lib.hid (G2.out.trans hf)
        clear hown hne hf hc hrow hk hj hjN hgk hkn hall hdiv
        go_wp2_with fail
        obtain ⟨Wa, rfl⟩ : ∃ W, W = wr := ⟨_, rfl⟩
        go_loopg [10] k (fun gg v10 wr => ∃ i : Nat, i + gg = k ∧ v10 = .int .i64 (i : Int) ∧ Fr [] Wa wr)
        case atStart => exact ⟨0, by omega, rfl, Fr.refl _ _⟩
        case round =>
          obtain ⟨i, hi, rfl, hf⟩ := hrel
          have Hi := Lib.hid hi
          have Hf3 := Lib.hid hf
          have hN4 := HN4.out
          by_cases hlt : i < k
          · obtain ⟨x, hx⟩ : ∃ x, ws[i]? = some x := ⟨_, List.getElem?_eq_getElem (by have := HN.out; omega)⟩
            have hlt1 : (i : Int) < (k : Int) := by omega
            have hi0' : (0 : Int) ≤ (i : Int) := by omega
            have hcell := HRow.out i x hx wr hf
            have hsb : s0.extract (4 * i) (4 * i + 4) = ⟨x.l.toArray⟩ := bext (by
              rw [Lib.extract_data, ← HP3.out, show 4 * i + 4 - 4 * i = 4 by omega]
              exact ext_b hx)
            have hs4 : s0.size = 4 * k := by have := HP2.out; have := HN.out; omega
            have b1 : (0 : Int) ≤ 4 * (i : Int) := by omega
            have b2 : 4 * (i : Int) ≤ 4 * (i : Int) + 4 := by omega
            have b3 : 4 * (i : Int) + 4 ≤ (s0.size : Int) := by omega
            have b4 : (4 * (i : Int)).toNat = 4 * i := by omega
            have b5 : (4 * (i : Int) + 4).toNat = 4 * i + 4 := by omega
            have m1 : IntKind.i64.wrap (4 * (i : Int)) = 4 * (i : Int) := IntWalk.i64_in _ (by omega)
            have m2 : IntKind.i64.wrap (4 * (i : Int) + 4) = 4 * (i : Int) + 4 := IntWalk.i64_in _ (by omega)
            have m3 : IntKind.i64.wrap ((i : Int) + 1) = (i : Int) + 1 := IntWalk.i64_in _ (by omega)
            have HL1 : Hid (∀ W, Std W → Calls Tryd.prog 14 #[.string ⟨x.l.toArray⟩] W fun e w' => e = .returned (.tuple #[.string ⟨(lineOf x ++ [10]).toArray⟩, .int .i64 0]) ∧ Fr [] W w') := Lib.hid (fun W hW => by
              have h := List_any ⟨x.l.toArray⟩ W hW
              have e : listP (⟨x.l.toArray⟩ : ByteArray).data.toList = (lineOf x ++ [10], 0) := list_one x
              rw [e] at h
              exact h)
            have HRx : Hid (∀ W, Fr [] wr W → W.cell? ⟨g, i, none⟩ = some (.string ⟨(lineOf x ++ [10]).toArray⟩)) := Lib.hid (fun W hW => hW.cell_some hcell (by simp))
            obtain ⟨XL, hXL⟩ : ∃ XL : ByteArray, XL = ⟨x.l.toArray⟩ := ⟨_, rfl⟩
            rw [← hXL] at HL1 hsb
            obtain ⟨RW, hRW⟩ : ∃ RW : ByteArray, RW = ⟨(lineOf x ++ [10]).toArray⟩ := ⟨_, rfl⟩
            rw [← hRW] at HL1 HRx
            have hse : (RW.toList != RW.toList) = false := by simp
            clear hi hf hlt hx hcell hs4 hXL hRW hN4
            go_wp2_with (first
              | (go_at_call 14; refine (HL1.out _ ((HS.out.fr HFw.out).fr Hf3.out)).mono ?_; rintro e w5 ⟨rfl, hf5⟩; have hcell5 := HRx.out w5 hf5; have G5 := Lib.hid (Hf3.out.trans hf5); clear hf5)
              | fail)
            go_roundg (k - (i + 1))
            case measure => have := Hi.out; omega
            case rel => exact ⟨i + 1, by have := Hi.out; omega, by go_num, G5.out⟩
          · obtain rfl : i = k := by omega
            have hlt1 : ¬ (i : Int) < (i : Int) := by omega
            have HFz := Lib.hid (HFw.out.trans hf)
            have HWab := Lib.hid hf
            clear hi hf hlt
            go_wp2_with fail
            obtain ⟨Wb, rfl⟩ : ∃ W, W = wr := ⟨_, rfl⟩
            have hm1 := World.ownsRow_made Wb #[] 0 (e := 5) (size := 1) (base := Wb.heap.size) (Nat.le_refl _) (Nat.zero_le _) (by simp)
            have HA0 : Hid (((Wb.alloc (.cells #[] 5)).alloc (.cells #[] 5)).ownsRow Wb.heap.size 5 1 (.slice (some ⟨Wb.heap.size, 0, none⟩) 0 0) 0 []) := Lib.hid (hm1.alloc _)
            have HB0 : Hid (((Wb.alloc (.cells #[] 5)).alloc (.cells #[] 5)).ownsRow Wb.heap.size 5 1 (.slice (some ⟨Wb.heap.size + 1, 0, none⟩) 0 0) 0 []) := Lib.hid (by
              have h := World.ownsRow_made (Wb.alloc (.cells #[] 5)) #[] 0 (e := 5) (size := 1) (base := Wb.heap.size) (by simp) (Nat.zero_le _) (by simp)
              have e : (Wb.alloc (.cells #[] 5)).heap.size = Wb.heap.size + 1 := by simp
              rw [e] at h
              exact h)
            have HF0 : Hid (Fr [] Wb ((Wb.alloc (.cells #[] 5)).alloc (.cells #[] 5))) := Lib.hid (((Fr.refl [] Wb).alloc _).alloc _)
            clear hm1
            obtain ⟨M, hM⟩ : ∃ M, M = min n 1000 := ⟨_, rfl⟩
            have HM := Lib.hid hM
            clear hM
            go_loopg [13, 14, 15] M (fun gg v13 v14 v15 wr => ∃ (c : Nat) (vs : List W4), c + gg = M ∧ v15 = .int .i64 (c : Int) ∧ wr.ownsRow Wb.heap.size 5 1 v13 (rowsB vs).length (bC (rowsB vs)) ∧ v13 ≠ .slice none 0 0 ∧ wr.ownsRow Wb.heap.size 5 1 v14 (bytesW vs).length (bC (bytesW vs)) ∧ v14 ≠ .slice none 0 0 ∧ v13.ownBlock ≠ v14.ownBlock ∧ Fr [] Wb wr ∧ vs.length ≤ c)
            case atStart => exact ⟨0, [], by omega, rfl, HA0.out, by simp, HB0.out, by simp, by simp [Value.ownBlock], HF0.out, Nat.le_refl _⟩
            case round =>
              obtain ⟨c, vs, hc, rfl, ho13, hn13, ho14, hn14, hne, hf, hvl⟩ := hrel
              have Hc := Lib.hid hc
              have H13 := Lib.hid ho13
              have Hn13 := Lib.hid hn13
              have H14 := Lib.hid ho14
              have Hn14 := Lib.hid hn14
              have Hne := Lib.hid hne
              have Hf3 := Lib.hid hf
              have Hvl := Lib.hid hvl
              by_cases hcM : c < M
              · have hcn : c < n := by have := HM.out; omega
                have hc1 : (c : Int) < (n : Int) := by omega
                have hc2 : (c : Int) < 1000 := by have := HM.out; omega
                have HcM := Lib.hid hcM
                have hc3 : (0 : Int) ≤ (c : Int) := by omega
                have hwk : IntKind.i64.wrap ((c : Int) + 1) = (c : Int) + 1 := IntWalk.i64_in _ (by omega)
                obtain ⟨b, off, hA, e0⟩ := HNu.out c hcn
                have HFn := Lib.hid (HFz.out.trans hf)
                obtain ⟨Z, hZ⟩ : ∃ Z, z c = Z := ⟨_, rfl⟩
                rw [hZ] at e0
                have E00 := Lib.hid e0
                have e0 := HFn.out.cell_some e0 (by simp)
                subst hA
                clear hZ
                by_cases hz : 0 ≤ Z ∧ Z < (i : Int)
                · obtain ⟨q, rfl⟩ : ∃ q : Nat, Z = (q : Int) := ⟨Z.toNat, by omega⟩
                  obtain ⟨x, hx⟩ : ∃ x, ws[q]? = some x := ⟨_, List.getElem?_eq_getElem (by have := HN.out; omega)⟩
                  have hqi : (q : Int) < (i : Int) := by omega
                  have hq0 : (0 : Int) ≤ (q : Int) := by omega
                  have hcell := HRow.out q x hx wr (HWab.out.trans hf)
                  have hsb : s0.extract (4 * q) (4 * q + 4) = ⟨x.l.toArray⟩ := bext (by
                    rw [Lib.extract_data, ← HP3.out, show 4 * q + 4 - 4 * q = 4 by omega]
                    exact ext_b hx)
                  have hs4 : s0.size = 4 * i := by have := HP2.out; have := HN.out; omega
                  have hN4 := HN4.out
                  have b1 : (0 : Int) ≤ 4 * (q : Int) := by omega
                  have b2 : 4 * (q : Int) ≤ 4 * (q : Int) + 4 := by omega
                  have b3 : 4 * (q : Int) + 4 ≤ (s0.size : Int) := by omega
                  have b4 : (4 * (q : Int)).toNat = 4 * q := by omega
                  have b5 : (4 * (q : Int) + 4).toNat = 4 * q + 4 := by omega
                  have m1 : IntKind.i64.wrap (4 * (q : Int)) = 4 * (q : Int) := IntWalk.i64_in _ (by omega)
                  have m2 : IntKind.i64.wrap (4 * (q : Int) + 4) = 4 * (q : Int) + 4 := IntWalk.i64_in _ (by omega)
                  have hrv := rows_len vs
                  have hbv := bytesW_len vs
                  have hll := line_len x
                  have hsz1 : (rowsB vs).length + (lineOf x ++ [10]).length ≤ 60000 := by rw [List.length_append]; simp only [List.length_cons, List.length_nil]; omega
                  have HSz1 := Lib.hid hsz1
                  have HSz2 : Hid ((bytesW vs).length + 4 ≤ 60000) := Lib.hid (by omega)
                  have HBw : Hid (Wb.heap.size ≤ wr.heap.size) := Lib.hid hf.size
                  clear hc ho13 hn13 ho14 hn14 hne hf hvl hcM hcn hz hx hs4 hN4 hrv hbv hll hsz1
                  go_upto_region 28 with (first
                    | (at_builtin; go_must (refine wpList_append_string rfl _ _ 37 9 rfl Wb.heap.size 5 i0 Tryd.underlying37 Tryd.underlying9 hi0 hz0 hz1 hz2 u13 (rowsB vs).length (bC (rowsB vs)) rfl H13.out ⟨(lineOf x ++ [10]).toArray⟩ rfl (by show (rowsB vs).length + (lineOf x ++ [10]).length ≤ maxLen; have := HSz1.out; simp only [maxLen]; omega) (by show (rowsB vs).length + (lineOf x ++ [10]).length ≤ _; have := HSz1.out; omega) HBw.out ?_; intro v5 w5 ho5 hg5 hn5 ha5; have HO5 := Lib.hid ho5; have HG5 := Lib.hid hg5; have HN5 := Lib.hid hn5; have HA5 := Lib.hid ha5; clear ho5 hg5 hn5 ha5))
                    | fail)
                  have HF5 := Lib.hid (Hf3.out.own H13.out HG5.out).drew
                  have h2 := two_rows Hn13.out H14.out Hn14.out Hne.out HG5.out HN5.out HA5.out
                  have H14b := Lib.hid (own_fr h2.1 ((Fr.refl [] w5).drew) (by simp))
                  have Hn5 := Lib.hid h2.2.1
                  have Hne5 := Lib.hid h2.2.2
                  clear h2
                  have e0 := (HFz.out.trans HF5.out).cell_some E00.out (by simp)
                  have hx5 : w5.ownsRow Wb.heap.size 5 1 v5 (rowsB (vs ++ [x])).length (bC (rowsB (vs ++ [x]))) := by
                    have h := HO5.out
                    rw [bC_str] at h
                    rw [rowsB_snoc, List.length_append]
                    exact h
                  have HX5 := Lib.hid (own_fr hx5 ((Fr.refl [] w5).drew) (by simp))
                  have HBw5 : Hid (Wb.heap.size ≤ w5.heap.size) := Lib.hid HF5.out.size
                  clear hx5
                  go_region_law (first
                    | (refine step_append_string rfl (.tmp 144) (.tmp 157) 37 9 rfl Wb.heap.size 5 i0 Tryd.underlying37 Tryd.underlying9 hi0 hz0 hz1 hz2 u14 (bytesW vs).length (bC (bytesW vs)) (by rfl) H14b.out ⟨x.l.toArray⟩ (by rfl) (by show (bytesW vs).length + 4 ≤ maxLen; have := HSz2.out; simp only [maxLen]; omega) (by show (bytesW vs).length + 4 ≤ _; have := HSz2.out; omega) HBw5.out ?_; intro v6 w6 ho6 hg6 hn6 ha6; have HO6 := Lib.hid ho6; have HG6 := Lib.hid hg6; have HN6 := Lib.hid hn6; have HA6 := Lib.hid ha6; clear ho6 hg6 hn6 ha6)
                    | fail)
                  all_goals
                    have HF6 := Lib.hid (HF5.out.own H14b.out HG6.out)
                    have h2 := two_rows Hn14.out HX5.out Hn5.out (fun e => Hne5.out e.symm) HG6.out HN6.out HA6.out
                    have H5c := Lib.hid h2.1
                    have Hn6 := Lib.hid h2.2.1
                    have Hne6 := Lib.hid h2.2.2
                    clear h2
                    have hx6 : w6.ownsRow Wb.heap.size 5 1 v6 (bytesW (vs ++ [x])).length (bC (bytesW (vs ++ [x]))) := by
                      have h := HO6.out
                      rw [bC_str] at h
                      rw [bytesW_snoc, List.length_append]
                      exact h
                    have HX6 := Lib.hid hx6
                    clear hx6
                    go_wp2_with fail
                    go_roundg (M - (c + 1))
                    case measure => have := Hc.out; have := HcM.out; omega
                    case rel => exact ⟨c + 1, vs ++ [x], by have := Hc.out; have := HcM.out; omega, by go_num, H5c.out, Hn5.out, HX6.out, Hn6.out, fun e => Hne6.out e.symm, HF6.out, by rw [List.length_append]; have := Hvl.out; simp only [List.length_cons, List.length_nil]; omega⟩
                · clear hc ho13 hn13 ho14 hn14 hne hf hvl hcM hcn
                  by_cases hz0 : 0 ≤ Z
                  · have hz1 : ¬ Z < (i : Int) := fun h => hz ⟨hz0, h⟩
                    clear hz
                    go_wp2_with fail
                    go_roundg (M - (c + 1))
                    case measure => have := Hc.out; have := HcM.out; omega
                    case rel => exact ⟨c + 1, vs, by have := Hc.out; have := HcM.out; omega, by go_num, H13.out, Hn13.out, H14.out, Hn14.out, Hne.out, Hf3.out, by have := Hvl.out; omega⟩
                  · clear hz
                    go_wp2_with fail
                    go_roundg (M - (c + 1))
                    case measure => have := Hc.out; have := HcM.out; omega
                    case rel => exact ⟨c + 1, vs, by have := Hc.out; have := HcM.out; omega, by go_num, H13.out, Hn13.out, H14.out, Hn14.out, Hne.out, Hf3.out, by have := Hvl.out; omega⟩
              · have hcM' : c = M := by omega
                have hor : ¬ (c : Int) < (n : Int) ∨ ((c : Int) < (n : Int) ∧ ¬ (c : Int) < 1000) := by have := HM.out; omega
                obtain ⟨g3, c3, rfl, k3⟩ := own_form ho13 hn13
                obtain ⟨g4, c4, rfl, k4⟩ := own_form ho14 hn14
                have hcv : ∀ (gg cc : Nat) (L : List UInt8), (∀ j u, (bC L)[j]? = some u → wr.cell? ((⟨gg, 0, none⟩ : Addr).add j) = some u) → ∀ W, Fr [] wr W → (convert 37 9 (.slice (some ⟨gg, 0, none⟩) L.length cc)).run Tryd.prog W = .ok (.string ⟨L.toArray⟩) W := fun gg cc L hc W hW => run_convert_bytes_back (P := Tryd.prog) W 37 9 5 ⟨gg, 0, none⟩ cc L Tryd.underlying37 Tryd.underlying5 Tryd.underlying9 (fun j hj => by
                  have e := add0 gg j
                  have h := hc j _ (by unfold bC; rw [List.getElem?_map, List.getElem?_eq_getElem hj]; rfl)
                  rw [e] at h ⊢
                  exact hW.cell_some h (by simp))
                have hC3 := hcv g3 c3 (rowsB vs) k3 wr (Fr.refl _ _)
                have HC4 := Lib.hid (hcv g4 c4 (bytesW vs) k4)
                have HFe := Lib.hid (HFz.out.trans hf)
                have hlr : (rowsB vs).length ≤ 30000 := by have := rows_len vs; have := HM.out; omega
                have hlb : (bytesW vs).length = 4 * vs.length := bytesW_len vs
                have hvm : vs.length ≤ 1000 := by have := HM.out; omega
                have HAs : Hid (∀ W, Std W → Calls Tryd.prog 15 #[.string ⟨(rowsB vs).toArray⟩] W fun e w' => e = .returned (.tuple #[.string ⟨(bytesW vs).toArray⟩, .int .i64 0, .int .i64 0]) ∧ Fr [] W w') := Lib.hid (fun W hW => by
                  have h := Assemble_any ⟨(rowsB vs).toArray⟩ W hW
                  rw [show (⟨(rowsB vs).toArray⟩ : ByteArray).data.toList = rowsB vs from rfl, asm_rows vs (by omega) (by omega)] at h
                  exact h)
                have hR1 : ¬ (32768 : Int) < ((rowsB vs).length : Int) := by omega
                have hR2 : ¬ (4096 : Int) < ((bytesW vs).length : Int) := by omega
                obtain ⟨RB, hRB⟩ : ∃ RB : ByteArray, RB = ⟨(rowsB vs).toArray⟩ := ⟨_, rfl⟩
                obtain ⟨BB, hBB⟩ : ∃ BB : ByteArray, BB = ⟨(bytesW vs).toArray⟩ := ⟨_, rfl⟩
                rw [← hRB] at HAs hC3
                rw [← hBB] at HAs HC4
                have hse : (BB.toList == BB.toList) = true := by simp
                generalize (rowsB vs).length = LR at *
                generalize (bytesW vs).length = LB at *
                clear hc ho13 hn13 ho14 hn14 hne hf hvl hcM hcM' k3 k4 hcv hlr hlb hvm hRB hBB H13 Hn13 H14 Hn14 Hne Hvl
                rcases hor with hcn | ⟨hcn, hcn2⟩
                all_goals
                  go_wp2_with (first
                    | (go_at_call 15; refine (HAs.out _ (HS.out.fr HFe.out)).mono ?_; rintro e w5 ⟨rfl, hf5⟩; have G5 := Lib.hid (HFe.out.trans hf5); have hC4 := HC4.out w5 hf5; clear hf5)
                    | fail)
                  go_ret
                  exact ⟨rfl, G5.out⟩
  · obtain ⟨hnil, hor⟩ := list_no s0.data.toList hok
    rw [hnil] at HLi
    generalize (listP s0.data.toList).2 = LE at *
    have p1 : (LE != 0) = true := bne_iff_ne.2 hok
    clear hok hnil
    rcases hor with ⟨h, rfl⟩ | ⟨h, rfl⟩
    · have hb : (4096 : Int) < (s0.size : Int) := by omega
      clear h
      go_enter Tryd.func7, Tryd.ntmps7
      go_wp2_with (first
        | (go_at_call 14; refine (HLi.out _ HS.out).mono ?_; rintro e w1 ⟨rfl, hf⟩; have G1 := Lib.hid hf; clear hf)
        | (go_at_call 8; refine (HFx.out _ (HS.out.fr G1.out)).mono ?_; rintro e w2 ⟨rfl, hf⟩; have G2 := Lib.hid (G1.out.trans hf); clear hf)
        | fail)
      all_goals
        go_ret
        refine ⟨?_, G2.out⟩
        first
          | rfl
          | (simp_all; done)
    · have hb : ((s0.size : Int) % 4 != 0) = true := by rw [bne_iff_ne]; omega
      have hb2 : (Int.tmod (s0.size : Int) 4 != 0) = true := by rw [bne_iff_ne, Int.tmod_eq_emod_of_nonneg (by omega)]; omega
      clear h
      go_enter Tryd.func7, Tryd.ntmps7
      go_wp2_with (first
        | (go_at_call 14; refine (HLi.out _ HS.out).mono ?_; rintro e w1 ⟨rfl, hf⟩; have G1 := Lib.hid hf; clear hf)
        | (go_at_call 8; refine (HFx.out _ (HS.out.fr G1.out)).mono ?_; rintro e w2 ⟨rfl, hf⟩; have G2 := Lib.hid (G1.out.trans hf); clear hf)
        | fail)
      all_goals
        go_ret
        refine ⟨?_, G2.out⟩
        first
          | rfl
          | (simp_all; done)
end Go.Proofs.YtjijhjdemkgpgaaDoor

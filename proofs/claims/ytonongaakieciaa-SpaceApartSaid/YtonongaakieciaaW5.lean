/- The program's memories: Lay, Clear, Clone. -/
import Derived.Test.YtonongaakieciaaW4
import Derived.Lib.BufferWrite
import Derived.Lib.SlBuf
import Derived.Deep.MidRow
import Derived.Laws.CopyOwn
namespace Go.Proofs.Ytonongaakieciaa
open Go.RowKit
set_option linter.unusedVariables false
set_option maxRecDepth 100000
set_option linter.unusedSimpArgs false
theorem Fr.setRow {S : List Nat} {w0 w : World} (h : Fr S w0 w) {g : Nat} (hg : g ∈ S ∨ w0.heap.size ≤ g) (cs : Array Value) : Fr S w0 (w.setRow g cs) :=
  ⟨h.os, h.tape, h.output, by simpa [World.setRow] using h.size, fun k hk hn => (setRow_other w g k cs (by
    rintro rfl
    rcases hg with hg | hg
    · exact hn hg
    · omega)).trans (h.block k hk hn)⟩
/-- The cells say the bytes. -/
def Says (cs : Array Value) (n : Nat) (b : Nat → UInt8) : Prop := ∀ j, j < n → cs[j]? = some (.int .u8 ((b j).toNat : Int))
theorem Says.upd {cs : Array Value} {n : Nat} {b : Nat → UInt8} (h : Says cs n b) (k : Nat) (c : UInt8) : Says (cs.setIfInBounds k (.int .u8 (c.toNat : Int))) n (upd b k c) := by
  intro j hj
  have h1 := h j hj
  by_cases hjk : j = k
  · subst hjk
    rw [Array.getElem?_setIfInBounds_self_of_lt (Array.getElem?_eq_some_iff.1 h1).1]
    unfold Go.Proofs.Ytonongaakieciaa.upd
    rw [if_pos rfl]
  · rw [Array.getElem?_setIfInBounds_ne (Ne.symm hjk), h1, upd_ne hjk]
def bv (c : UInt8) : Value := .int .u8 (c.toNat : Int)
/-- The cells once bytes were stored from a place on. -/
def putC : Array Value → Nat → List Value → Array Value
  | cs, _, [] => cs
  | cs, k, v :: vs => putC (cs.setIfInBounds k v) (k + 1) vs
theorem Blk.setCells {g : Nat} {t : TypeId} : ∀ (vs : List Value) (cs : Array Value) (k : Nat) (w : World), Blk w g t cs → Blk (w.setCells g k vs) g t (putC cs k vs) := by
  intro vs
  induction vs with
  | nil => intro cs k w h; exact h
  | cons v vs ih => intro cs k w h; exact ih _ _ _ (h.set_ k v)
theorem Fr.setCells {S : List Nat} {w : World} {g : Nat} (hg : g ∈ S ∨ w.heap.size ≤ g) : ∀ (vs : List Value) (k : Nat) (w' : World), Fr S w w' → Fr S w (w'.setCells g k vs) := by
  intro vs
  induction vs with
  | nil => intro k w' h; exact h
  | cons v vs ih => intro k w' h; exact ih _ _ (h.setCell hg v)
theorem Says.putC {n : Nat} : ∀ (s : List UInt8) (cs : Array Value) (k : Nat) (b : Nat → UInt8), Says cs n b → Says (putC cs k (s.map bv)) n (putL b k s) := by
  intro s
  induction s with
  | nil => intro cs k b h; exact h
  | cons c s ih => intro cs k b h; exact ih _ _ _ (h.upd k c)
theorem byteCells_bv (s : List UInt8) : Lib.byteCells s = s.map bv := rfl
/-- What a copy of a text lays. -/
theorem Says.splice {n : Nat} {cs : Array Value} {b : Nat → UInt8} (h : Says cs n b) (k : Nat) (s : List UInt8) (hk : k + s.length ≤ n) : Says (cs.toList.take k ++ Lib.byteCells s ++ cs.toList.drop (k + s.length)).toArray n (putL b k s) := by
  intro j hj
  have hsz : n ≤ cs.size := by
    cases hn : n with
    | zero => omega
    | succ m =>
      have := (Array.getElem?_eq_some_iff.1 (h m (by omega))).1
      omega
  rw [byteCells_bv]
  simp only [List.getElem?_toArray]
  by_cases h1 : j < k
  · rw [List.append_assoc, List.getElem?_append_left (by simp; omega), List.getElem?_take, if_pos h1, putL_out _ _ _ _ (by omega)]
    have := h j hj
    simpa using this
  · by_cases h2 : j < k + s.length
    · obtain ⟨c, hc⟩ : ∃ c, s[j - k]? = some c := ⟨_, List.getElem?_eq_getElem (by omega)⟩
      have := putL_in s b k (j - k) c hc
      rw [show k + (j - k) = j from by omega] at this
      rw [this, List.getElem?_append_left (by simp; omega), List.getElem?_append_right (by simp; omega)]
      simp only [List.length_take, Array.length_toList, Nat.min_eq_left (by omega : k ≤ cs.size), List.getElem?_map, hc, Option.map_some]
      rfl
    · rw [List.getElem?_append_right (by simp; omega), putL_out _ _ _ _ (by omega)]
      have := h j hj
      simp only [List.length_append, List.length_take, Array.length_toList, Nat.min_eq_left (by omega : k ≤ cs.size), List.length_map, List.getElem?_drop]
      rw [show k + s.length + (j - (k + s.length)) = j from by omega]
      simpa using this
theorem MemAt.of {w : World} {p F : Nat} {n : Nat} {b : Nat → UInt8} {cs : Array Value} (hd : Hd w p F n) (hb : Blk w F 136 cs) (h : Says cs (n * 256) b) : MemAt w p F ⟨n, b⟩ := ⟨hd, cs, hb, h⟩
theorem MemAt.says {w : World} {p F : Nat} {st : St} (h : MemAt w p F st) : ∃ cs, Blk w F 136 cs ∧ Says cs (st.n * 256) st.b := h.fr

/-- What Lay leaves, and tells. -/
def layE (n : Nat) (f a : Int) (s : ByteArray) : Int := if f < 0 ∨ (n : Int) ≤ f then 83 else if a < 0 ∨ 256 < a ∨ 256 - a < s.size then 80 else 0
def LayP (w : World) (p F : Nat) (st : St) (f a : Int) (s : ByteArray) (e : Ending) (w' : World) : Prop :=
  e = .returned (.int .i64 (layE st.n f a s)) ∧ MemAt w' p F (if layE st.n f a s = 0 then ⟨st.n, putL st.b (f.toNat * 256 + a.toNat) s.data.toList⟩ else st) ∧ Fr [F] w w'
set_option maxHeartbeats 400000 in
theorem Lay_bad (p F : Nat) (st : St) (w : World) (f a : Int) (s : ByteArray) (h : MemAt w p F st) (hs : s.size ≤ 1152921504606846976) (hb : (f < 0 ∨ (st.n : Int) ≤ f) ∨ (a < 0 ∨ 256 < a ∨ 256 - a < s.size)) :
    Calls Try.prog 31 #[ptr p, .int .i64 f, .int .i64 a, .string s] w fun e w' => e = .returned (.int .i64 (layE st.n f a s)) ∧ w = w' := by
  obtain ⟨cap, hc, -, -⟩ := h.hd.cell
  have e0 : (if f < 0 ∨ (st.n : Int) ≤ f then (83 : Int) else 80) = layE st.n f a s := by
    unfold layE
    by_cases h1 : f < 0 ∨ (st.n : Int) ≤ f
    · rw [if_pos h1, if_pos h1]
    · rw [if_neg h1, if_neg h1, if_pos (hb.resolve_left h1)]
  have E := Lib.hid e0
  clear h e0
  obtain ⟨N, hN⟩ : ∃ N, s.size = N := ⟨_, rfl⟩
  rw [hN] at hb hs
  by_cases h1 : f < 0
  · rw [if_pos (.inl h1)] at E
    go_enter Try.func31, Try.ntmps31
    go_wp2
    go_ret
    exact ⟨ret_int E.out, rfl⟩
  · by_cases h2 : (st.n : Int) ≤ f
    · rw [if_pos (.inr h2)] at E
      go_enter Try.func31, Try.ntmps31
      go_wp2
      go_ret
      exact ⟨ret_int E.out, rfl⟩
    · rw [if_neg (by omega)] at E
      have hb' := hb.resolve_left (by omega)
      by_cases h3 : a < 0
      · clear hb hb'
        go_enter Try.func31, Try.ntmps31
        go_wp2
        go_ret
        exact ⟨ret_int E.out, rfl⟩
      · by_cases h4 : 256 < a
        · clear hb hb'
          go_enter Try.func31, Try.ntmps31
          go_wp2
          go_ret
          exact ⟨ret_int E.out, rfl⟩
        · have h5 : 256 - a < (N : Int) := by omega
          clear hb hb'
          go_enter Try.func31, Try.ntmps31
          go_wp2
          go_ret
          exact ⟨ret_int E.out, rfl⟩
theorem Try.size5 : (Try.prog.info? 5).map (fun i => i.size) = some 1 := by kernel_rfl
theorem Try.size5' : ((Try.prog.info? 5).map (fun i => i.size)).isSome = true := by kernel_rfl
set_option maxRecDepth 100000 in
set_option maxHeartbeats 400000 in
theorem Lay_ok (p F : Nat) (st : St) (w : World) (f a : Nat) (s : ByteArray) (h : MemAt w p F st) (hf : f < st.n) (ha : a + s.size ≤ 256) :
    Calls Try.prog 31 #[ptr p, .int .i64 f, .int .i64 a, .string s] w fun e w' => e = .returned (.int .i64 0) ∧ MemAt w' p F ⟨st.n, putL st.b (f * 256 + a) s.data.toList⟩ ∧ Fr [F] w w' := by
  obtain ⟨cap, hc, hcap, hcm⟩ := h.hd.cell
  obtain ⟨cs, hb, hsay⟩ := h.says
  have hd := h.hd
  have hne := h.ne
  have eS : s.data.toList.length = s.size := rfl
  have hcs : st.n * 256 ≤ cs.size := by
    have hn := h.hd.n1
    have := (Array.getElem?_eq_some_iff.1 (hsay (st.n * 256 - 1) (by omega))).1
    omega
  have h1 : ¬ (st.n : Int) ≤ (f : Int) := by omega
  have h1' : (f : Int) < (st.n : Int) := by omega
  have h2 : ¬ (256 : Int) < (a : Int) := by omega
  by_cases h0 : s.size = 0
  · have hr := fun d dl dc => Lib.run_copy_empty_string (P := Try.prog) w 118 9 3 5 d dl dc s Try.underlying118 Try.size5' h0
    have e0 : putL st.b (f * 256 + a) s.data.toList = st.b := by
      rw [List.eq_nil_of_length_eq_zero (by omega : s.data.toList.length = 0)]
      rfl
    have HM := Lib.hid h
    have E0 := Lib.hid e0
    have h3 : ¬ (256 : Int) - (a : Int) < 0 := by omega
    have h4 : (a : Int) ≤ 256 := by omega
    have h5 : (0 : Int) ≤ (a : Int) := by omega
    clear h hb hsay hd e0 eS ha
    by_cases ha' : a = 256
    · subst ha'
      go_enter Try.func31, Try.ntmps31
      go_wp2_with (with_reducible refine Lib.wpList_copy_run _ rfl (.tmp 40) (.tmp 41) 118 9 rfl _ _ rfl rfl (hr _ _ _) ?_)
      go_ret
      refine ⟨rfl, ?_, Fr.refl _ _⟩
      rw [E0.out]
      exact HM.out
    · go_enter Try.func31, Try.ntmps31
      go_wp2_with (with_reducible refine Lib.wpList_copy_run _ rfl (.tmp 40) (.tmp 41) 118 9 rfl _ _ rfl rfl (hr _ _ _) ?_)
      go_ret
      refine ⟨rfl, ?_, Fr.refl _ _⟩
      rw [E0.out]
      exact HM.out
  · have hr := fun dc => Lib.run_copy_row_string (P := Try.prog) w 118 9 3 5 F (f * 256 + a) (256 - a) dc s cs 136 Try.underlying118 Try.size5 hb (by omega) (by omega)
    have hblk : Blk (w.setRow F (cs.toList.take (f * 256 + a) ++ Lib.byteCells s.data.toList ++ cs.toList.drop (f * 256 + a + s.size)).toArray) F 136 (cs.toList.take (f * 256 + a) ++ Lib.byteCells s.data.toList ++ cs.toList.drop (f * 256 + a + s.size)).toArray := setRow_heap w F _ _ 136 _ hb
    have hfr : Fr [F] w (w.setRow F (cs.toList.take (f * 256 + a) ++ Lib.byteCells s.data.toList ++ cs.toList.drop (f * 256 + a + s.size)).toArray) := (Fr.refl _ w).setRow (.inl (by simp)) _
    have hs2 := hsay.splice (f * 256 + a) s.data.toList (by omega)
    rw [eS] at hs2
    have HM : Hid (MemAt _ p F ⟨st.n, putL st.b (f * 256 + a) s.data.toList⟩) := Lib.hid (MemAt.of (hd.fr hfr (by simpa using hne)) hblk hs2)
    have HF := Lib.hid hfr
    have ha2 : a < 256 := by omega
    obtain ⟨N, hN⟩ : ∃ N, s.size = N := ⟨_, rfl⟩
    have h3 : ¬ (256 : Int) - (a : Int) < (N : Int) := by omega
    have h4 : (a : Int) ≤ 256 := by omega
    have h5 : (0 : Int) ≤ (a : Int) := by omega
    have h6 : ¬ a = 256 := by omega
    clear h hb hsay hd eS ha hs2 hblk hfr
    generalize w.setRow F (cs.toList.take (f * 256 + a) ++ Lib.byteCells s.data.toList ++ cs.toList.drop (f * 256 + a + s.size)).toArray = W at *
    rw [hN] at hr
    go_enter Try.func31, Try.ntmps31
    go_wp2_with (with_reducible refine Lib.wpList_copy_run _ rfl (.tmp 40) (.tmp 41) 118 9 rfl _ _ rfl rfl (hr _) ?_)
    go_ret
    exact ⟨rfl, HM.out, HF.out⟩
theorem Lay_any (p F : Nat) (st : St) (w : World) (f a : Int) (s : ByteArray) (h : MemAt w p F st) (hs : s.size ≤ 1152921504606846976) : Calls Try.prog 31 #[ptr p, .int .i64 f, .int .i64 a, .string s] w (LayP w p F st f a s) := by
  by_cases hb : (f < 0 ∨ (st.n : Int) ≤ f) ∨ (a < 0 ∨ 256 < a ∨ 256 - a < s.size)
  · refine (Lay_bad p F st w f a s h hs hb).mono fun e w' ⟨he, hw⟩ => ?_
    subst hw
    refine ⟨he, ?_, Fr.refl _ _⟩
    have hne : layE st.n f a s ≠ 0 := by
      unfold layE
      rcases hb with h1 | h1
      · rw [if_pos h1]; omega
      · split
        · omega
        · first | omega | (rw [if_pos h1]; omega)
    rw [if_neg hne]
    exact h
  · obtain ⟨f', rfl⟩ := Int.eq_ofNat_of_zero_le (by omega : 0 ≤ f)
    obtain ⟨a', rfl⟩ := Int.eq_ofNat_of_zero_le (by omega : 0 ≤ a)
    have h0 : layE st.n f' a' s = 0 := by
      unfold layE
      rw [if_neg (by omega), if_neg (by omega)]
    refine (Lay_ok p F st w f' a' s h (by omega) (by omega)).mono fun e w' ⟨he, hm, hf⟩ => ⟨by rw [h0]; exact he, ?_, hf⟩
    rw [if_pos h0]
    exact hm
/-- Zeros. -/
def zs256 : List UInt8 := List.replicate 256 0
theorem zs256_len : zs256.length = 256 := List.length_replicate
theorem zs256_bv : zs256.map bv = List.replicate 256 (.int .u8 0) := List.map_replicate
def clE (n : Nat) (f : Int) : Int := if f < 0 ∨ (n : Int) ≤ f then 83 else 0
def ClearP (w : World) (p F : Nat) (st : St) (f : Int) (e : Ending) (w' : World) : Prop :=
  e = .returned (.int .i64 (clE st.n f)) ∧ MemAt w' p F (if clE st.n f = 0 then ⟨st.n, putL st.b (f.toNat * 256) zs256⟩ else st) ∧ Fr [F] w w'
set_option maxHeartbeats 400000 in
theorem Clear_bad (p F : Nat) (st : St) (w : World) (f : Int) (h : MemAt w p F st) (hb : f < 0 ∨ (st.n : Int) ≤ f) : Calls Try.prog 60 #[ptr p, .int .i64 f] w fun e w' => e = .returned (.int .i64 83) ∧ w = w' := by
  obtain ⟨cap, hc, -, -⟩ := h.hd.cell
  clear h
  rcases hb with hb | hb
  · go_enter Try.func60, Try.ntmps60
    go_wp2
    go_ret
    exact ⟨rfl, rfl⟩
  · have hf' : ¬ f < 0 := by omega
    go_enter Try.func60, Try.ntmps60
    go_wp2
    go_ret
    exact ⟨rfl, rfl⟩
theorem zero_frame : ∃ Z : Array Value, (∀ w : World, (zeroValue 136).run Try.prog w = .ok (.agg Z) w) ∧ Z.toList = zs256.map bv ∧ Z.size = 256 ∧ Z.all (·.oneCell') = true :=
  ⟨Array.replicate 256 (.int .u8 0), fun w => by kernel_rfl, by rw [zs256_bv, Array.toList_replicate], Array.size_replicate, by rw [Array.all_eq_true_iff_forall_mem]; intro x hx; rw [Array.mem_replicate] at hx; rw [hx.2]; rfl⟩
set_option maxRecDepth 100000 in
set_option maxHeartbeats 400000 in
theorem Clear_ok (p F : Nat) (st : St) (w : World) (f : Nat) (h : MemAt w p F st) (hf : f < st.n) : Calls Try.prog 60 #[ptr p, .int .i64 f] w fun e w' => e = .returned (.int .i64 0) ∧ MemAt w' p F ⟨st.n, putL st.b (f * 256) zs256⟩ ∧ Fr [F] w w' := by
  obtain ⟨cap, hc, hcap, hcm⟩ := h.hd.cell
  have hf' : ¬ (st.n : Int) ≤ (f : Int) := by omega
  have hf2 : (f : Int) < (st.n : Int) := by omega
  obtain ⟨Z, hz, hzl, hzs, hz1⟩ := zero_frame
  have hinfo : (Try.prog.info? 136).map (·.size) = some Z.size := by
    rw [hzs]
    have := Try.info136
    cases hi : Try.prog.info? 136 with
    | none => rw [hi] at this; cases this
    | some i => rw [hi] at this; simp at this; simp [this.1]
  obtain ⟨cs, hb, hsay⟩ := h.says
  have hth : w.there F (f * 256) Z.size := fun j hj => ⟨by rw [h.cell (by omega)]; rfl, h.frozen _⟩
  have HM : Hid (MemAt (w.setCells F (f * 256) Z.toList) p F ⟨st.n, putL st.b (f * 256) zs256⟩) := by
    refine Lib.hid (MemAt.of (h.hd.fr (Fr.setCells (S := [F]) (.inl (by simp)) _ _ _ (Fr.refl _ w)) (by simpa using h.ne)) (hb.setCells _ _ _ _) ?_)
    rw [hzl]
    exact hsay.putC _ _ _ _
  have HF : Hid (Fr [F] w (w.setCells F (f * 256) Z.toList)) := Lib.hid (Fr.setCells (S := [F]) (.inl (by simp)) _ _ _ (Fr.refl _ w))
  have Hth := Lib.hid hth
  have Hi := Lib.hid hinfo
  clear h hb hsay hth hzl hzs hinfo
  go_enter Try.func60, Try.ntmps60
  go_wp2_with (with_reducible refine wpList_store_mid rfl 136 (.tmp 22) (.tmp 21) rfl F (f * 256) Z rfl rfl Hth.out Hi.out hz1 ?_)
  go_ret
  exact ⟨rfl, HM.out, HF.out⟩
theorem Clear_any (p F : Nat) (st : St) (w : World) (f : Int) (h : MemAt w p F st) : Calls Try.prog 60 #[ptr p, .int .i64 f] w (ClearP w p F st f) := by
  by_cases hb : f < 0 ∨ (st.n : Int) ≤ f
  · refine (Clear_bad p F st w f h hb).mono fun e w' ⟨he, hw⟩ => ?_
    subst hw
    have h0 : clE st.n f = 83 := if_pos hb
    refine ⟨by rw [h0]; exact he, ?_, Fr.refl _ _⟩
    rw [h0, if_neg (by omega)]
    exact h
  · obtain ⟨f', rfl⟩ := Int.eq_ofNat_of_zero_le (by omega : 0 ≤ f)
    have h0 : clE st.n f' = 0 := if_neg hb
    refine (Clear_ok p F st w f' h (by omega)).mono fun e w' ⟨he, hm, hf⟩ => ⟨by rw [h0]; exact he, ?_, hf⟩
    rw [if_pos h0]
    exact hm
end Go.Proofs.Ytonongaakieciaa

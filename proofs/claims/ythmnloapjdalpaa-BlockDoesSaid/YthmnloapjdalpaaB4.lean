/- block.Bytes. block.Parse; the document's Parse. -/
import Derived.Test.YthmnloapjdalpaaB2
namespace Go.Proofs.Ythmnloapjdalpaa
open Go.RowKit
set_option linter.unusedVariables false
set_option linter.unusedSimpArgs false
def padB (t : ByteArray) : ByteArray := bs (at8 t) 0 116
def bytesE (t : ByteArray) (n : Int) : Int := if 116 < t.size then 152 else if n < 0 ∨ 4611686018427387904 < n then 1 else 0
def blkL (t : ByteArray) (n : Nat) : List UInt8 := ((padB t).data.toList ++ numB (crc (padB t).data.toList).toNat 4) ++ numB n 8
def bytesV (t : ByteArray) (n : Int) : ByteArray := if bytesE t n = 0 then ⟨(blkL t n.toNat).toArray⟩ else ⟨#[]⟩
theorem padB_size (t : ByteArray) : (padB t).size = 116 := bs_size _ _ _
theorem z98 : Try.zeroCells98 = Array.replicate 128 (.int .u8 0) := by kernel_rfl
theorem at8_far {t : ByteArray} {i : Nat} (h : t.size ≤ i) : at8 t i = 0 := by
  unfold at8
  rw [Array.getElem?_eq_none h]
  rfl
theorem padB_at (t : ByteArray) (j : Nat) (hj : j < 116) : (padB t).data.toList[j]? = some (at8 t j) := by
  have := bs_get (at8 t) 0 116 j hj
  rw [Nat.zero_add] at this
  show (bs (at8 t) 0 116).data.toList[j]? = _
  simpa using this
theorem padB_len (t : ByteArray) : (padB t).data.toList.length = 116 := by
  have : (padB t).data.toList.length = (padB t).size := rfl
  rw [this, padB_size]
theorem getD_list (t : ByteArray) (j : Nat) (hj : j < t.size) : (t.data.toList.map fun x => Value.int .u8 (x.toNat : Int))[j]? = some (.int .u8 ((at8 t j).toNat : Int)) := by
  rw [List.getElem?_map]
  have := at8_get hj
  rw [show t.data.toList[j]? = t.data[j]? by simp, this]
  rfl
/-- The sector's beginning: data, and noughts behind it. -/
theorem pad_cells (t : ByteArray) (w : World) (ht : t.size ≤ 116) : ∀ j, j < 116 → ((w.alloc (.cells Try.zeroCells98 98)).setCells w.heap.size 0 (t.data.toList.map fun x => Value.int .u8 (x.toNat : Int))).cell? ⟨w.heap.size, j, none⟩ = some (.int .u8 ((at8 t j).toNat : Int)) := by
  intro j hj
  have hb := Blk.new w 98 Try.zeroCells98
  have hz : ∀ i, i < 128 → (w.alloc (.cells Try.zeroCells98 98)).cell? ⟨w.heap.size, i, none⟩ = some (.int .u8 0) := fun i hi => by
    rw [hb.cell, z98]
    simp [hi]
  have hlen : (t.data.toList.map fun x => Value.int .u8 (x.toNat : Int)).length = t.size := by rw [List.length_map]; rfl
  by_cases h : j < t.size
  · have h1 := World.cell?_setCells_in w.heap.size (t.data.toList.map fun x => Value.int .u8 (x.toNat : Int)) 0 (w.alloc (.cells Try.zeroCells98 98)) (fun i hi => by rw [hlen] at hi; rw [Nat.zero_add, hz i (by omega)]; rfl) j (by rw [hlen]; exact h)
    rw [Nat.zero_add] at h1
    rw [h1]
    have h2 := getD_list t j h
    rw [List.getElem?_eq_getElem (by rw [hlen]; exact h)] at h2
    exact h2
  · rw [World.cell?_setCells_out w.heap.size _ 0 _ ⟨w.heap.size, j, none⟩ (fun _ _ => .inr (by rw [hlen]; show 0 + t.size ≤ j; omega)), hz j (by omega), at8_far (by omega)]
    rfl
theorem list_ba (l : List UInt8) (s : ByteArray) (h : s.data.toList = l) : (⟨l.toArray⟩ : ByteArray) = s := by
  subst h
  rfl
theorem BRow.cells {B : Nat} {w : World} {A : Option Addr} {n cap : Nat} {l : List UInt8} (h : w.ownsRow B 5 1 (.slice A n cap) n (bytesC l)) (hn : n = l.length) (h0 : 0 < n) : ∃ g, A = some ⟨g, 0, none⟩ ∧ ∀ j (hj : j < l.length), w.cell? ((⟨g, 0, none⟩ : Addr).add j) = some (.int .u8 (l[j].toNat : Int)) := by
  by_cases hv : (.slice A n cap : Value) = .slice none 0 0
  · injection hv with _ e _
    omega
  · obtain ⟨g, c, cs, e, h1, h2, h3, h4, h5⟩ := own_some h hv
    injection e with e _ _
    refine ⟨g, e, fun j hj => ?_⟩
    rw [addr_add, Nat.zero_add, h4.cell]
    exact h5 j _ (by unfold bytesC; rw [List.getElem?_map, List.getElem?_eq_getElem hj]; rfl)
theorem PutFrom.to {B : Nat} {w w' : World} {v : Value} {l : List UInt8} (h : PutFrom B w v l) (hf : Fr [] w w') : PutFrom B w' v l := by
  rcases h with h | ⟨ad, e, hc⟩
  · exact .inl (h.kept hf)
  · exact .inr ⟨ad, e, fun j u hj => hf.cell_some (hc j u hj) (by simp)⟩
theorem put_at (w0 : World) (A : Option Addr) (m cap : Nat) (l : List UInt8) (N many : Nat) (w : World) (hf : Fr [] w0 w) (hml : m = l.length) (h : PutFrom w0.heap.size w (.slice A m cap) l) (hl : m ≤ 1000) (hm : many ≤ 8) (hm0 : 0 < many) (hN : N < 18446744073709551616) :
    Calls Try.prog 53 #[.slice A m cap, .int .u64 (N : Int), .int .i64 (many : Int)] w fun e w' => ∃ A' cap', e = .returned (.slice A' (m + many) cap') ∧ BRow w0.heap.size w' (.slice A' (m + many) cap') (l ++ numB N many) ∧ Fr [] w0 w' := by
  subst hml
  exact (put_any w0 A cap l N many w hf h hl hm hN).mono fun e w' ⟨A', c', he, h1, h2⟩ => ⟨A', c', he, by
    rcases h1 with h1 | h1
    · omega
    · exact h1, h2⟩
theorem BRow.str {B : Nat} {w : World} {A : Option Addr} {n cap : Nat} {l : List UInt8} (h : BRow B w (.slice A n cap) l) (hn : n = l.length) (h0 : 0 < n) : (convert 30 9 (.slice A n cap)).run Try.prog w = .ok (.string ⟨l.toArray⟩) w := by
  unfold BRow at h
  rw [← hn] at h
  obtain ⟨g, rfl, hc⟩ := BRow.cells h hn h0
  have := run_convert_bytes_back (P := Try.prog) w 30 9 5 ⟨g, 0, none⟩ cap l Try.underlying30 Try.underlying5 Try.underlying9 hc
  rw [← hn] at this
  exact this
set_option maxRecDepth 100000 in
set_option maxHeartbeats 1000000 in
theorem Bytes_ok (t : ByteArray) (n : Nat) (w : World) (ht : t.size ≤ 116) (hn : n ≤ 4611686018427387904) : Calls Try.prog 15 #[.string t, .int .i64 (n : Int)] w fun e w' => e = .returned (.tuple #[.string ⟨(blkL t n).toArray⟩, .int .i64 0]) ∧ Fr [] w w' := by
  have h1 : ¬ (116 : Int) < (t.size : Int) := by omega
  have h2 : ¬ (4611686018427387904 : Int) < (n : Int) := by omega
  have h3 : ¬ (n : Int) < 0 := by omega
  have hpc := pad_cells t w ht
  have hb := Blk.new w 98 Try.zeroCells98
  have hcy := run_copy_string (P := Try.prog) (w.alloc (.cells Try.zeroCells98 98)) 30 9 3 5 w.heap.size 0 116 128 t Try.underlying30 sizeOf5 ht (fun j hj => by rw [hb.cell, z98]; simp; omega) (fun j hj => hb.frozen _)
  obtain ⟨W1, hW1⟩ : ∃ W1, (w.alloc (.cells Try.zeroCells98 98)).setCells w.heap.size 0 (t.data.toList.map fun x => Value.int .u8 (x.toNat : Int)) = W1 := ⟨_, rfl⟩
  have hf1 : Fr [] w W1 := by rw [← hW1]; exact Fr.setCells (.inr (Nat.le_refl _)) _ _ _ ((Fr.refl [] w).alloc _)
  rw [hW1] at hcy hpc
  have hcv := run_convert_bytes_back (P := Try.prog) W1 30 9 5 ⟨w.heap.size, 0, none⟩ 116 (padB t).data.toList Try.underlying30 Try.underlying5 Try.underlying9 (fun j hj => by
    rw [padB_len] at hj
    rw [addr_add, Nat.zero_add, hpc j hj]
    have := padB_at t j hj
    rw [List.getElem?_eq_getElem (by rw [padB_len]; exact hj)] at this
    injection this with this
    rw [this])
  rw [padB_len] at hcv
  have hPut : PutFrom w.heap.size W1 (.slice (some ⟨w.heap.size, 0, none⟩) 116 116) (padB t).data.toList := .inr ⟨⟨w.heap.size, 0, none⟩, by rw [padB_len], fun j u hj => by
    have hj' : j < 116 := by
      have := (List.getElem?_eq_some_iff.1 hj).1
      rwa [bytesC_len, padB_len] at this
    unfold bytesC at hj
    rw [List.getElem?_map, padB_at t j hj'] at hj
    injection hj with hj
    rw [addr_add, Nat.zero_add, hpc j hj', ← hj]⟩
  have hps := padB_size t
  have hplen := padB_len t
  obtain ⟨L, hL⟩ : ∃ L, (padB t).data.toList = L := ⟨_, rfl⟩
  have hsz : (⟨L.toArray⟩ : ByteArray).size = 116 := by rw [list_ba L _ hL, hps]
  have HS := Lib.hid (fun W => (show Calls Try.prog 54 #[.string ⟨L.toArray⟩] W fun e w' => e = .returned (.int .u32 ((crc L).toNat : Int)) ∧ Fr [] W w' from sum_any ⟨L.toArray⟩ W (by rw [hsz]; simp [maxLen])))
  rw [hL] at hPut hplen hcv
  have HE : Hid (blkL t n = (L ++ numB (crc L).toNat 4) ++ numB n 8) := Lib.hid (by unfold blkL; rw [hL])
  have hcl := (crc L).isLt
  have HK1 := Lib.hid (fun (W : World) (hf : Fr [] W1 W) => put_at w (some ⟨w.heap.size, 0, none⟩) 116 116 L (crc L).toNat 4 W (hf1.trans hf) (by rw [hplen]) (hPut.to hf) (by omega) (by omega) (by omega) (by omega))
  have HK2 := Lib.hid (fun (W : World) (A : Option Addr) (c : Nat) (hf : Fr [] w W) (h : BRow w.heap.size W (.slice A 120 c) (L ++ numB (crc L).toNat 4)) => put_at w A 120 c (L ++ numB (crc L).toNat 4) n 8 W hf (by rw [List.length_append, hplen, numB_len]) (.inl h) (by omega) (by omega) (by omega) (by omega))
  have hl2 : ((L ++ numB (crc L).toNat 4) ++ numB n 8).length = 128 := by rw [List.length_append, List.length_append, hplen, numB_len, numB_len]
  have HSt := Lib.hid (fun (W : World) (A : Option Addr) (c : Nat) (h : BRow w.heap.size W (.slice A 128 c) ((L ++ numB (crc L).toNat 4) ++ numB n 8)) => h.str hl2.symm (by omega))
  rw [← HE.out] at HSt HK2
  generalize numB (crc L).toNat 4 = q4 at *
  obtain ⟨C, hC⟩ : ∃ C, (crc L).toNat = C := ⟨_, rfl⟩
  rw [hC] at HK1 HS hcl
  have hcu : IntKind.u64.wrap (C : Int) = (C : Int) := u64_in _ (by omega) (by omega)
  have hnu : IntKind.u64.wrap (n : Int) = (n : Int) := u64_in _ (by omega) (by omega)
  clear hC HE hPut hpc hb hW1 hf1 hps hplen hL hsz hl2
  generalize blkL t n = Z at *
  generalize L ++ q4 = L4 at *
  go_enter Try.func15, Try.ntmps15
  go_wp2_with (first
    | (go_at_call 54; refine (HS.out _).mono ?_; rintro e w2 ⟨rfl, hf2⟩)
    | (go_at_call 53; first | (have hq := HK1.out _ hf2; refine hq.mono ?_; clear hq hf2; rintro e w3 ⟨A3, c3, rfl, hr3, hf3⟩) | (have hq := HK2.out _ _ _ hf3 hr3; refine hq.mono ?_; clear hq hf3 hr3; rintro e w4 ⟨A4, c4, rfl, hr4, hf4⟩; have hst := HSt.out _ _ _ hr4)))
  go_ret2
  exact ⟨rfl, hf4⟩
theorem Bytes_any (t : ByteArray) (n : Int) (w : World) (ht : t.size ≤ maxLen) : Calls Try.prog 15 #[.string t, .int .i64 n] w fun e w' => e = .returned (.tuple #[.string (bytesV t n), .int .i64 (bytesE t n)]) ∧ Fr [] w w' := by
  simp only [maxLen] at ht
  by_cases h1 : 116 < t.size
  · have h1' : (116 : Int) < (t.size : Int) := by omega
    have E1 : bytesE t n = 152 := if_pos h1
    have E2 : bytesV t n = ⟨#[]⟩ := by unfold bytesV; rw [E1]; rfl
    rw [E1, E2]
    clear E1 E2
    go_enter Try.func15, Try.ntmps15
    go_wp2
    go_ret2
    exact ⟨rfl, Fr.refl _ _⟩
  · have h1' : ¬ (116 : Int) < (t.size : Int) := by omega
    by_cases h2 : n < 0 ∨ 4611686018427387904 < n
    · have E1 : bytesE t n = 1 := by unfold bytesE; rw [if_neg h1, if_pos h2]
      have E2 : bytesV t n = ⟨#[]⟩ := by unfold bytesV; rw [E1]; rfl
      rw [E1, E2]
      clear E1 E2
      by_cases h3 : n < 0
      · clear h2
        go_enter Try.func15, Try.ntmps15
        go_wp2
        go_ret2
        exact ⟨rfl, Fr.refl _ _⟩
      · have h4 : 4611686018427387904 < n := by omega
        clear h2
        go_enter Try.func15, Try.ntmps15
        go_wp2
        go_ret2
        exact ⟨rfl, Fr.refl _ _⟩
    · have E1 : bytesE t n = 0 := by unfold bytesE; rw [if_neg h1, if_neg h2]
      have E2 : bytesV t n = ⟨(blkL t n.toNat).toArray⟩ := by unfold bytesV; rw [E1]; rfl
      rw [E1, E2]
      have := Bytes_ok t n.toNat w (by omega) (by omega)
      rw [show ((n.toNat : Nat) : Int) = n by omega] at this
      exact this
end Go.Proofs.Ythmnloapjdalpaa
namespace Go.Proofs.Ythmnloapjdalpaa
open Go.RowKit
set_option linter.unusedVariables false
set_option linter.unusedSimpArgs false
structure ParP (s X Y : ByteArray) (T S C : Nat) : Prop where
  sz : s.size = 128
  x : s.extract 0 116 = X
  xs : X.size = 116
  y : (s.extract 116 120) = Y
  st : stampOf s = T
  su : sumOf s = S
  c : (crc X.data.toList).toNat = C
  cl : C < 4294967296
  tl : T < 18446744073709551616
theorem parP (s : ByteArray) (h : s.size = 128) : ∃ X Y T S C, ParP s X Y T S C :=
  ⟨_, _, _, _, _, h, rfl, by rw [ByteArray.size_extract]; omega, rfl, rfl, rfl, rfl, (crc _).isLt, by
    have := big_lt (s.extract 120 s.size).data.toList
    have h2 : (s.extract 120 s.size).data.toList.length = 8 := by
      have : (s.extract 120 s.size).data.toList.length = (s.extract 120 s.size).size := rfl
      rw [this, ByteArray.size_extract]
      omega
    rw [h2] at this
    exact Nat.lt_of_lt_of_le this (by decide)⟩
theorem ParP.e {s X Y : ByteArray} {T S C : Nat} (h : ParP s X Y T S C) : parseE s = if 4611686018427387904 < T ∨ S ≠ C then 153 else 0 := by
  unfold parseE
  rw [if_neg (by have := h.sz; omega), h.st, h.su, h.x, h.c]
def ParseR (s : ByteArray) : Value := .tuple #[.string (parseD s), .int .i64 (parseN s : Int), .int .i64 (parseE s)]
theorem parseR_bad {s : ByteArray} {e : Int} (h : parseE s = e) (he : e ≠ 0) : ParseR s = .tuple #[.string ⟨#[]⟩, .int .i64 0, .int .i64 e] := by
  unfold ParseR parseD parseN
  rw [h, if_neg he, if_neg he]
  rfl
theorem parseR_ok {s X Y : ByteArray} {T S C : Nat} (h : ParP s X Y T S C) (he : parseE s = 0) : ParseR s = .tuple #[.string X, .int .i64 (T : Int), .int .i64 0] := by
  unfold ParseR parseD parseN
  rw [he, if_pos rfl, if_pos rfl, h.x, h.st]
set_option maxRecDepth 100000 in
theorem Parse_any (s : ByteArray) (w : World) (hs : s.size ≤ maxLen) : Calls Try.prog 17 #[.string s] w fun e w' => e = .returned (ParseR s) ∧ Fr [] w w' := by
  simp only [maxLen] at hs
  by_cases h : s.size = 128
  · obtain ⟨X, Y, T, S, C, hP⟩ := parP s h
    have HP := Lib.hid hP
    have m1 := fun wx => (sl_h s 116 (116 : Int) rfl wx (by omega)).trans (by rw [hP.x])
    have m2 := fun wx => (sl_lh s 116 120 (116 : Int) (120 : Int) rfl rfl wx (by omega) (by omega)).trans (by rw [hP.y])
    have h58 := Lib.hid (stamped_any s h)
    have hYs : Y.size = 4 := by rw [← hP.y, ByteArray.size_extract]; omega
    have h59 := Lib.hid (fun W => (show Calls Try.prog 59 #[.string Y] W fun e w' => e = .returned (.int .u64 (S : Int)) ∧ W = w' by
      have := of_any Y (by omega) W
      rw [← hP.y] at this ⊢
      rw [← hP.su]
      exact this))
    have h54 := Lib.hid (fun W => (show Calls Try.prog 54 #[.string X] W fun e w' => e = .returned (.int .u32 (C : Int)) ∧ Fr [] W w' by
      have := sum_any X W (by rw [hP.xs]; simp [maxLen])
      rw [hP.c] at this
      exact this))
    have hE := hP.e
    have hcl := hP.cl
    have hcu : IntKind.u64.wrap (C : Int) = (C : Int) := u64_in _ (by omega) (by omega)
    have h128 : (s.size : Int) = 128 := by omega
    by_cases hT : T ≤ 4611686018427387904
    · have e1 : stampedE s = true := by unfold stampedE; rw [hP.st]; simpa using hT
      have e2 : stampedN s = T := by unfold stampedN; rw [e1, if_pos rfl, hP.st]
      rw [e1, e2] at h58
      by_cases hSC : S = C
      · have HR := Lib.hid (parseR_ok hP (by rw [hE, if_neg (by omega)]))
        subst hSC
        clear hE hP e1 e2 hYs
        generalize ParseR s = R at *
        go_enter Try.func17, Try.ntmps17
        go_wp2_with (first
          | (go_at_call 58; refine (h58.out _).mono ?_; rintro e w1 ⟨rfl, rfl⟩)
          | (go_at_call 59; refine (h59.out _).mono ?_; rintro e w2 ⟨rfl, rfl⟩)
          | (go_at_call 54; refine (h54.out _).mono ?_; rintro e w3 ⟨rfl, hf⟩))
        go_ret3
        exact ⟨by rw [HR.out]; rfl, hf⟩
      · have HR := Lib.hid (parseR_bad (e := 153) (by rw [hE, if_pos (.inr hSC)]) (by decide))
        have hSC' : ¬ (S : Int) = (C : Int) := by omega
        clear hE hP e1 e2 hYs hSC
        generalize ParseR s = R at *
        go_enter Try.func17, Try.ntmps17
        go_wp2_with (first
          | (go_at_call 58; refine (h58.out _).mono ?_; rintro e w1 ⟨rfl, rfl⟩)
          | (go_at_call 59; refine (h59.out _).mono ?_; rintro e w2 ⟨rfl, rfl⟩)
          | (go_at_call 54; refine (h54.out _).mono ?_; rintro e w3 ⟨rfl, hf⟩))
        go_ret3
        exact ⟨by rw [HR.out]; rfl, hf⟩
    · have e1 : stampedE s = false := by unfold stampedE; rw [hP.st]; simpa using hT
      have e2 : stampedN s = 0 := by unfold stampedN; rw [e1]; rfl
      rw [e1, e2] at h58
      have HR := Lib.hid (parseR_bad (e := 153) (by rw [hE, if_pos (.inl (by omega))]) (by decide))
      clear hE hP e1 e2 hYs hT
      generalize ParseR s = R at *
      go_enter Try.func17, Try.ntmps17
      go_wp2_with (first
        | (go_at_call 58; refine (h58.out _).mono ?_; rintro e w1 ⟨rfl, rfl⟩)
        | (go_at_call 59; refine (h59.out _).mono ?_; rintro e w2 ⟨rfl, rfl⟩)
        | (go_at_call 54; refine (h54.out _).mono ?_; rintro e w3 ⟨rfl, hf⟩))
      go_ret3
      exact ⟨by rw [HR.out]; rfl, Fr.refl _ _⟩
  · have HR := Lib.hid (parseR_bad (e := 152) (by unfold parseE; rw [if_pos h]) (by decide))
    have h' : ¬ (s.size : Int) = 128 := by omega
    generalize ParseR s = R at *
    go_enter Try.func17, Try.ntmps17
    go_wp2_with fail
    go_ret3
    exact ⟨by rw [HR.out]; rfl, Fr.refl _ _⟩
end Go.Proofs.Ythmnloapjdalpaa

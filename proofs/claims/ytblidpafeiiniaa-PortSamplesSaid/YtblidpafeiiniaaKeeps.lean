/- PortKeeps' walk. -/
import Derived.Test.YtblidpafeiiniaaW6
import Derived.Test.YtblidpafeiiniaaOps
import Derived.Deep.LoopGhost
import Derived.Deep.DeepMust
namespace Go.Proofs.Ytblidpafeiiniaa
open Go.RowKit

theorem PortAt.alloc' {w : World} {p : Nat} {s : PS} (h : PortAt w p s) (o : Obj) : PortAt (w.alloc o) p s := h.fr (S := []) ((Fr.refl _ _).alloc _) (by simp) (by simp)
theorem own_fr {w w' : World} {S : List Nat} {base : Nat} {e : TypeId} {size : Nat} {v : Value} {n : Nat} {xs : List Value} (h : w.ownsRow base e size v n xs) (hf : Fr S w w') (hs : ∀ k, k ∈ S → ∀ cs, ¬ Blk w k e cs) : w'.ownsRow base e size v n xs := by
  refine ⟨h.1, ?_⟩
  rcases h.2 with h2 | ⟨g, cap, cur, hv, hb, hh, r⟩
  · exact .inl h2
  · exact .inr ⟨g, cap, cur, hv, hb, Blk.fr (show Blk w g e cur from hh) hf (fun hk => hs g hk cur hh), r⟩
theorem own_blk {w : World} {base : Nat} {e : TypeId} {size : Nat} {v : Value} {n : Nat} {xs : List Value} (h : w.ownsRow base e size v n xs) : ∀ k, k ∈ v.ownBlock.toList → base ≤ k ∧ ∃ cs, Blk w k e cs := by
  intro k hk
  rcases h.2 with ⟨rfl, _⟩ | ⟨g, cap, cur, rfl, hb, hh, r⟩
  · simp [Value.ownBlock] at hk
  · simp [Value.ownBlock] at hk
    subst hk
    exact ⟨hb, cur, hh⟩
theorem own_succ {w : World} {base : Nat} {e : TypeId} {size : Nat} {v : Value} {n : Nat} {xs : List Value} (h : w.ownsRow base e size v (n + 1) xs) : ∃ g cap, v = .slice (some ⟨g, 0, none⟩) (n + 1) cap := by
  rcases h.2 with ⟨_, h2⟩ | ⟨g, cap, cur, h1, _⟩
  · omega
  · exact ⟨g, cap, h1⟩
theorem Fr.of_own {w w' : World} {v : Value} (h : w.grownBy w' v.ownBlock) : Fr v.ownBlock.toList w w' := Fr.of_grown h (fun k hk => by rw [hk]; simp)
theorem PortAt.own {w w' : World} {p : Nat} {s : PS} {base : Nat} {e : TypeId} {size : Nat} {v : Value} {n : Nat} {xs : List Value} (h : PortAt w p s) (ho : w.ownsRow base e size v n xs) (hg : w.grownBy w' v.ownBlock) (h1 : e ≠ 53) (h2 : e ≠ 62) : PortAt w' p s := by
  refine h.fr (Fr.of_own hg) (fun hp => ?_) (fun k hk cs hc => ?_)
  · obtain ⟨_, cs, hc⟩ := own_blk ho p hp
    obtain ⟨v, hb, _⟩ := h
    exact h1 (hc.eq hb).1
  · obtain ⟨_, cs', hc'⟩ := own_blk ho k hk
    exact h2 (hc'.eq hc).1

theorem Try.info9 : (Try.prog.info? 9).map (fun i => (i.zero, i.size, i.bytes)) = some (some (.string ByteArray.empty), 1, 16) := by kernel_rfl
def strs (l : List ByteArray) : List Value := l.map Value.string

/-- What holds at the head of a round: the port, what was sent, the counts. -/
structure KI (w : World) (F T S D : Int) (p c : Nat) (k : Nat) (sv : Value) (all out told : Int) (st : PS) (sl : List ByteArray) (wr : World) : Prop where
  hp : PortAt wr p st
  hv : PV st k
  hK : st.K = 1
  hS : st.S = S
  hD : st.D = D
  own : wr.ownsRow w.heap.size 9 1 sv sl.length (strs sl)
  slk : sl.length ≤ k
  o0 : 0 ≤ out
  ol : out ≤ sl.length
  map : st.l.map (·.1) = sl.drop out.toNat
  t0 : 0 ≤ told
  sum : all = out + st.l.length + told + st.lost
  ak : all ≤ k
  blk : Blk wr c 23 #[.int .i64 1, .int .i64 F, .int .i64 T, .int .i64 S, .int .i64 D]
  fr : Fr [] w wr
  hc : w.heap.size ≤ c
  hpw : w.heap.size ≤ p
section
variable {w wr w2 : World} {F T S D : Int} {p c k : Nat} {sv sv' : Value} {all out told : Int} {st : PS} {sl : List ByteArray}
theorem KI.len (h : KI w F T S D p c k sv all out told st sl wr) : (st.l.length : Int) = sl.length - out := by
  have h1 := congrArg List.length h.map
  simp only [List.length_map, List.length_drop] at h1
  have := h.o0
  have := h.ol
  omega
theorem KI.alloc (h : KI w F T S D p c k sv all out told st sl wr) (o : Obj) : KI w F T S D p c k sv all out told st sl (wr.alloc o) :=
  ⟨h.hp.alloc' o, h.hv, h.hK, h.hS, h.hD, h.own.alloc o, h.slk, h.o0, h.ol, h.map, h.t0, h.sum, h.ak, h.blk.alloc o, h.fr.alloc o, h.hc, h.hpw⟩
theorem KI.mono {k' : Nat} (h : KI w F T S D p c k sv all out told st sl wr) (hk : k ≤ k') : KI w F T S D p c k' sv all out told st sl wr :=
  ⟨h.hp, h.hv.mono hk, h.hK, h.hS, h.hD, h.own, by have := h.slk; omega, h.o0, h.ol, h.map, h.t0, h.sum, by have := h.ak; omega, h.blk, h.fr, h.hc, h.hpw⟩
/-- The port turns, nothing else. -/
theorem KI.turn (h : KI w F T S D p c k sv all out told st sl wr) (hf : Fr [p] wr w2) :
    w2.ownsRow w.heap.size 9 1 sv sl.length (strs sl) ∧ Blk w2 c 23 #[.int .i64 1, .int .i64 F, .int .i64 T, .int .i64 S, .int .i64 D] ∧ Fr [] w w2 := by
  obtain ⟨v, hb, -⟩ := h.hp
  exact ⟨own_fr h.own hf (fun i hi cs hcs => by simp at hi; subst hi; have := (hcs.eq hb).1; simp at this), h.blk.fr hf (by simp; exact h.blk.ne_ hb (by decide)),
    h.fr.step hf (fun i hi => by simp at hi; subst hi; exact .inr h.hpw)⟩
/-- The round that receives a message. -/
theorem KI.take (h : KI w F T S D p c k sv all out told st sl wr) {m : ByteArray} {tk : Int} {r : List (ByteArray × Int)} (hl : st.l = (m, tk) :: r) (hp2 : PortAt w2 p { st with l := r, lost := 0 }) (hf : Fr [p] wr w2) :
    KI w F T S D p c (k + 1) sv all (out + 1) (told + st.lost) { st with l := r, lost := 0 } sl w2 := by
  obtain ⟨t1, t2, t3⟩ := h.turn hf
  have hlen := h.len
  have ho := h.o0
  have hol := h.ol
  have hmap := h.map
  have hsum := h.sum
  have hll := h.hv.len
  have hl0 := h.hv.lost0
  have htick := h.hv.tick
  have hsize := h.hv.size
  rw [hl] at hlen hmap hsum hll htick hsize
  simp only [List.length_cons] at hlen hsum hll
  refine ⟨hp2, ⟨h.hv.ok, by show (r.length : Int) ≤ st.D; omega, by simp, by simp; omega, fun x hx => htick x (List.mem_cons_of_mem _ hx), fun x hx => hsize x (List.mem_cons_of_mem _ hx)⟩, h.hK, h.hS, h.hD, t1, by have := h.slk; omega, by omega, by omega, ?_, by have := h.t0; omega, by show all = out + 1 + (r.length : Int) + (told + st.lost) + 0; omega, by have := h.ak; omega, t2, t3, h.hc, h.hpw⟩
  show r.map (·.1) = _
  have e : (out + 1).toNat = out.toNat + 1 := by omega
  rw [e, ← List.tail_drop, ← hmap]
  rfl
/-- The round that sends into a full port. -/
theorem KI.full (h : KI w F T S D p c k sv all out told st sl wr) (hp2 : PortAt w2 p { st with lost := st.lost + 1 }) (hf : Fr [p] wr w2) :
    KI w F T S D p c (k + 1) sv (all + 1) out told { st with lost := st.lost + 1 } sl w2 := by
  obtain ⟨t1, t2, t3⟩ := h.turn hf
  have hsum := h.sum
  have hl0 := h.hv.lost0
  have hlN := h.hv.lostN
  exact ⟨hp2, ⟨h.hv.ok, h.hv.len, by show 0 ≤ st.lost + 1; omega, by show st.lost + 1 ≤ _; omega, h.hv.tick, h.hv.size⟩, h.hK, h.hS, h.hD, t1, by have := h.slk; omega, h.o0, h.ol, h.map, h.t0, by show all + 1 = out + (st.l.length : Int) + told + (st.lost + 1); omega, by have := h.ak; omega, t2, t3, h.hc, h.hpw⟩
/-- The round that sends a message. -/
theorem KI.room (h : KI w F T S D p c k sv all out told st sl wr) {m : ByteArray} (hp2 : PortAt w2 p { st with l := st.l ++ [(m, 0)] }) (hf : Fr [p] wr w2) (hr : (st.l.length : Int) < st.D) (hm : m.size ≤ 255) {w3 : World} {n' : Nat}
    (hn : n' = sl.length + 1) (ho3 : w3.ownsRow w.heap.size 9 1 sv' n' (strs sl ++ [.string m])) (hg : w2.grownBy w3 sv.ownBlock) :
    KI w F T S D p c (k + 1) sv' (all + 1) out told { st with l := st.l ++ [(m, 0)] } (sl ++ [m]) w3 := by
  obtain ⟨t1, t2, t3⟩ := h.turn hf
  have hsum := h.sum
  have hol := h.ol
  have ho0 := h.o0
  have hf3 := Fr.of_own hg
  subst hn
  refine ⟨hp2.own t1 hg (by decide) (by decide), ⟨h.hv.ok, by simp; omega, h.hv.lost0, by have := h.hv.lostN; show st.lost ≤ _; omega, ?_, ?_⟩, h.hK, h.hS, h.hD, by simpa [strs] using ho3, by have := h.slk; simp; omega, h.o0, by simp; omega, ?_, h.t0, by simp; omega, by have := h.ak; omega,
    t2.fr hf3 (fun hk => ?_), t3.step hf3 (fun i hi => .inr (by have := own_blk t1 i hi; exact this.1)), h.hc, h.hpw⟩
  · intro x hx
    simp at hx
    rcases hx with hx | rfl
    · exact h.hv.tick x hx
    · simp
  · intro x hx
    simp at hx
    rcases hx with hx | rfl
    · exact h.hv.size x hx
    · exact hm
  · show List.map (fun x : ByteArray × Int => x.1) (st.l ++ [(m, 0)]) = _
    rw [List.map_append, h.map, List.drop_append_of_le_length (by omega)]
    rfl
  · obtain ⟨_, cs, hcs⟩ := own_blk t1 c hk
    have := (hcs.eq t2).1
    simp at this
end

set_option maxHeartbeats 1000000 in
theorem keeps_no (K F T S D : Int) (sv : Value) (w : World) (hok : okC 1 F T S D = false) :
    Calls Try.prog 3 #[cfg K F T S D, sv] w fun e w' => e = .returned (.bool true) ∧ Fr [] w w' := by
  have hcfg : ∀ w, Calls Try.prog 7 #[.agg #[.int .i64 1, .int .i64 F, .int .i64 T, .int .i64 S, .int .i64 D]] w fun e w' => e = .returned (.tuple #[.pointer none, .int .i64 140]) ∧ Fr [] w w' := fun w => new_no 1 F T S D w hok
  have hrc : ∀ w, Calls Try.prog 8 #[.agg #[.int .i64 1, .int .i64 F, .int .i64 T, .int .i64 S, .int .i64 D]] w fun e w' => e = .returned (.int .i64 140) ∧ Fr [] w w' := fun w => rcheck_no 1 F T S D w hok
  have Hcfg := Lib.hid hcfg; clear hcfg
  have Hrc := Lib.hid hrc; clear hrc hok
  unfold cfg
  go_enter Try.func3, Try.ntmps3
  have hc0 := fun (w1 : World) (hf : Fr [] (w.alloc (.cells #[.int .i64 1, .int .i64 F, .int .i64 T, .int .i64 S, .int .i64 D] 23)) w1) (i : Nat) => hf.cell (p := ⟨w.heap.size, i, none⟩) (by simp) (by simp)
  have Hc0 := Lib.hid hc0; clear hc0
  go_wp2_with (first
    | (go_at_call 7; go_must ((with_reducible refine (Hcfg.out _).mono ?_); rintro e w1 ⟨rfl, hf1⟩; have hcc := Hc0.out _ hf1))
    | (go_at_call 8; go_must ((with_reducible refine (Hrc.out _).mono ?_); rintro e w2 ⟨rfl, hf2⟩))
    | (go_at_call 9; go_must ((with_reducible refine (fixed_any _).mono ?_); rintro e w3 ⟨rfl, hf3⟩)))
  go_ret
  exact ⟨rfl, (((Fr.refl _ _).alloc _).trans hf1).trans (hf2.trans hf3)⟩

set_option maxRecDepth 100000 in
set_option maxHeartbeats 4000000 in
theorem keeps_ok (K F T S D : Int) (A : Option Addr) (n cap : Nat) (ops : Nat → OpD) (w : World) (hok : okC 1 F T S D = true) (hs : OpsIn w (.slice A n cap) n ops) (hnN : n ≤ 4398046511104) :
    Calls Try.prog 3 #[cfg K F T S D, .slice A n cap] w fun e w' => e = .returned (.bool true) ∧ Fr [] w w' := by
  have hcfg : ∀ w, Calls Try.prog 7 #[.agg #[.int .i64 1, .int .i64 F, .int .i64 T, .int .i64 S, .int .i64 D]] w (NewOk w (ps0 1 F T S D)) := fun w => new_ok 1 F T S D w hok
  have hD := (okC_iff ..).1 hok
  have hD1 : 1 ≤ D := by omega
  have hD2 : D ≤ 8 := by omega
  clear hD
  have Hok := Lib.hid hok; clear hok
  have Hcfg := Lib.hid hcfg; clear hcfg
  have Hs := Lib.hid hs; clear hs
  obtain ⟨i0, hi0, hz0, hz1, hz2⟩ := info3 Try.info9
  unfold cfg
  go_enter Try.func3, Try.ntmps3
  have hc0 := fun (w1 : World) (hf : Fr [] (w.alloc (.cells #[.int .i64 1, .int .i64 F, .int .i64 T, .int .i64 S, .int .i64 D] 23)) w1) => (Blk.new w 23 #[.int .i64 1, .int .i64 F, .int .i64 T, .int .i64 S, .int .i64 D]).fr hf (by simp)
  have Hc0 := Lib.hid hc0; clear hc0
  go_wp2_with (first
    | (go_at_call 7; go_must ((with_reducible refine (Hcfg.out _).mono ?_); rintro e w1 ⟨p, rfl, hpe, hp1, hf1⟩))
    | fail)
  simp only [World.size_alloc] at hpe
  have hbc := Hc0.out _ hf1
  have hw1 : Fr [] w w1 := ((Fr.refl _ _).alloc _).trans hf1
  have hw1s := hw1.size
  have hI : KI w F T S D p w.heap.size 0 (.slice (some ⟨w1.heap.size, 0, none⟩) 0 0) 0 0 0 (ps0 1 F T S D) [] (w1.alloc (.cells #[] 9)) :=
    ⟨hp1.alloc' _, PV.new Hok.out, rfl, rfl, rfl, World.ownsRow_made w1 #[] 0 hw1s (by simp [maxLen]) (by simp), by simp, by omega, by simp, by simp [ps0], by omega, by simp [ps0], by simp, hbc.alloc _, hw1.alloc _, Nat.le_refl _, by omega⟩
  have HI0 := Lib.hid hI; clear hI hbc hw1 hp1 hf1 hpe Hc0
  go_loopg [7, 8, 9, 10, 11, 12] n (fun g sv all out told lost i wr => ∃ (k : Nat) (a o t : Int) (st : PS) (sl : List ByteArray) (A' : Option Addr) (nn cap' : Nat), k + g = n ∧ i = .int .i64 k ∧ all = .int .i64 a ∧ out = .int .i64 o ∧ told = .int .i64 t ∧ lost = .int .i64 st.lost ∧ sv = .slice A' nn cap' ∧ KI w F T S D p w.heap.size k (.slice A' nn cap') a o t st sl wr)
  case atStart => exact ⟨0, 0, 0, 0, _, _, _, _, _, by omega, rfl, rfl, rfl, rfl, rfl, rfl, HI0.out⟩
  case round =>
    obtain ⟨k, a, o, t, st, sl, A', nn, cap', hk, rfl, rfl, rfl, rfl, rfl, rfl, hInv⟩ := hrel
    have HI := Lib.hid hInv
    have hlen1 := hInv.len
    obtain ⟨hp, hv, hK, hS, hDD, hown, hslk, ho0, hol, hmap, ht0, hall, hak, hblk, hfr, hc, hpw⟩ := hInv
    have Hk := Lib.hid hk
    obtain rfl : nn = sl.length := by
      rcases hown.2 with ⟨h1, h2⟩ | ⟨g, cap', cur, h1, _⟩
      · injection h1 with _ h3 _; omega
      · injection h1
    have hl0 := hv.lost0
    have hlD := hv.len
    rw [hDD] at hlD
    have hstl : 0 ≤ st.l.length := Nat.zero_le _
    have hb1 : o ≤ 4398046511104 := by omega
    have hb2 : t ≤ 4398046511104 := by omega
    have hb3 : st.lost ≤ 4398046511104 := by omega
    have hb4 : a ≤ 4398046511104 := by omega
    have hb5 : 0 ≤ a := by omega
    have hb6 : sl.length ≤ 4398046511104 := by omega
    have hb7 : (st.l.length : Int) ≤ 8 := by omega
    by_cases hlt : k < n
    · obtain ⟨b, off, hA, hbl, c0, c1, c2, c3⟩ := (Hs.out.fr hfr).at_ hlt
      subst hA
      have Hsz := Lib.hid (ops k).hS
      have hblt := hblk.lt
      have hbne : b ≠ p := by
        obtain ⟨b', off', hA', hbl', _⟩ := Hs.out.at_ hlt
        injection hA' with hA'; injection hA' with hb' _
        omega
      generalize ops k = q at *
      have Hall := Lib.hid hall
      have Hmap := Lib.hid hmap
      have Hlen1 := Lib.hid hlen1
      have HK := Lib.hid hK
      have HS := Lib.hid hS
      have HDD := Lib.hid hDD
      have cb3 := hblk.cell 3
      have cb4 := hblk.cell 4
      simp at cb3 cb4
      clear hk hall hmap hlen1 hK hS hDD
      by_cases hkd : q.Kind = 1
      · have t1 : (q.Kind == 1) = true := by simp [hkd]
        clear hkd
        cases hl : st.l with
        | nil =>
          have hol' : o = sl.length := by have := Hlen1.out; rw [hl] at this; simp at this; omega
          subst hol'
          have Hl := Lib.hid hl; clear hl
          go_wp2_with (first
            | (go_at_call 10; go_must ((with_reducible refine (recv_empty p st _ 0 (hp.alloc' _) (by decide) (by decide) Hl.out).mono ?_); rintro e w2 ⟨rfl, rfl⟩))
            | fail)
          go_roundg (n - (k + 1))
          case measure => have := Hk.out; omega
          case rel => exact ⟨k + 1, a, _, t, st, sl, _, _, _, by have := Hk.out; omega, by go_num, rfl, rfl, rfl, rfl, rfl, (HI.out.alloc _).mono (by omega)⟩
        | cons x r =>
          obtain ⟨m, tk⟩ := x
          have hol' : o < sl.length := by have := Hlen1.out; rw [hl] at this; simp at this; omega
          have t2 : decide ((sl.length : Int) ≤ o) = false := by simp; omega
          have hm : sl[o.toNat]? = some m := by
            have h := Hmap.out
            rw [hl] at h
            have := congrArg List.head? h
            simpa [List.head?_drop] using this.symm
          obtain ⟨g, hA', hcell⟩ : ∃ g, A' = some ⟨g, 0, none⟩ ∧ wr.cell? ⟨g, o.toNat, none⟩ = some (.string m) := by
            rcases hown.2 with ⟨h1, h2⟩ | ⟨g, cap'', cur, h1, h2⟩
            · omega
            · injection h1 with h1
              refine ⟨g, h1, ?_⟩
              have := hown.cells (g := g) (by rw [h1]; rfl) o.toNat (.string m) (by simp [strs, hm])
              rwa [addr_add, Nat.zero_add] at this
          subst hA'
          have hgp : g ≠ p := by
            obtain ⟨_, cs, hcs⟩ := own_blk hown g (by simp [Value.ownBlock])
            obtain ⟨v, hbp, -⟩ := hp
            exact hcs.ne_ hbp (by decide)
          have Hgp : Hid (g ∉ [p]) := Lib.hid (by simp [hgp])
          have Hl := Lib.hid hl; clear hl hm
          have hol2 : ¬ (sl.length : Int) ≤ o := by omega
          go_wp2_with (first
            | (go_at_call 10; go_must ((with_reducible refine (recv_take p st _ m tk r 0 (hp.alloc' _) Hl.out (by decide) (by decide) HK.out).mono ?_); rintro e w2 ⟨rfl, hp2, hf2⟩; have hcell2 := hf2.cell_some (p := ⟨g, o.toNat, none⟩) (((Fr.refl [] wr).alloc _).cell_some hcell (by simp)) Hgp.out))
            | fail)
          go_roundg (n - (k + 1))
          case measure => have := Hk.out; omega
          case rel => exact ⟨k + 1, a, o + 1, t + st.lost, _, sl, _, _, _, by have := Hk.out; omega, by go_num, rfl, rfl, rfl, rfl, rfl, (HI.out.alloc _).take Hl.out hp2 hf2⟩
      · have t1 : (q.Kind == 1) = false := by rw [beq_eq_false_iff_ne]; exact hkd
        clear hkd
        have Hbp : Hid (b ∉ [p]) := Lib.hid (by simp [hbne])
        have Hwp : Hid (w.heap.size ∉ [p]) := Lib.hid (by obtain ⟨v, hbp, -⟩ := hp; simp; exact hblk.ne_ hbp (by decide))
        have Hrp : Hid (wr.heap.size ∉ [p]) := Lib.hid (by obtain ⟨v, hbp, -⟩ := hp; have := hbp.lt; simp; omega)
        by_cases hsz : S < q.S.size
        · have hs2 : ¬ (q.S.size : Int) ≤ S := by omega
          have hs3 : decide ((q.S.size : Int) ≤ S) = false := by simp; omega
          have hszm := Hsz.out
          unfold maxLen at hszm
          go_wp2_with (first
            | (go_at_call 11; go_must ((with_reducible refine (len_any p st _ (hp.alloc' _)).mono ?_); rintro e w2 ⟨rfl, rfl⟩))
            | (go_at_call 12; go_must ((with_reducible refine (send_long p st _ q.S 0 (hp.alloc' _) (by decide) (by decide) (by rw [HS.out]; exact hsz) Hsz.out).mono ?_); rintro e w3 ⟨rfl, rfl⟩))
            | fail)
          go_roundg (n - (k + 1))
          case measure => have := Hk.out; omega
          case rel => exact ⟨k + 1, a, o, t, st, sl, _, _, _, by have := Hk.out; omega, by go_num, rfl, rfl, rfl, rfl, rfl, (HI.out.alloc _).mono (by omega)⟩
        · have hs1 : (q.S.size : Int) ≤ S := by omega
          have hszm := Hsz.out
          unfold maxLen at hszm
          have hq255 : q.S.size ≤ 255 := by have := hv.s; have := HS.out; omega
          by_cases hfull : (st.l.length : Int) = D
          · have t3 : ((st.l.length : Int) == D) = true := by simp [hfull]
            have t4 : ((st.l.length : Int) != (sl.length : Int) - o) = false := by have := Hlen1.out; simp; omega
            have Hfull : Hid ((st.l.length : Int) = st.D) := Lib.hid (by rw [HDD.out]; exact hfull)
            clear hfull
            have tok : True := trivial
            go_wp2_with (first
              | (go_at_call 11; have _t := tok; go_must ((with_reducible refine (len_any p st _ (hp.alloc' _)).mono ?_); rintro e w2 ⟨rfl, rfl⟩; clear tok))
              | (go_at_call 12; go_must ((with_reducible refine (send_full p st _ q.S 0 (hp.alloc' _) (by decide) (by decide) (by rw [HS.out]; exact hs1) Hsz.out HK.out Hfull.out hl0 (by omega)).mono ?_); rintro e w3 ⟨rfl, hp3, hf3⟩; have cc := fun i => hf3.cell (p := ⟨w.heap.size, i, none⟩) (by simp; omega) Hwp.out))
              | (go_at_call 11; go_must ((with_reducible refine (len_any p _ _ hp3).mono ?_); rintro e w4 ⟨rfl, rfl⟩))
              | fail)
            go_roundg (n - (k + 1))
            case measure => have := Hk.out; omega
            case rel => exact ⟨k + 1, a + 1, o, t, _, sl, _, _, _, by have := Hk.out; omega, by go_num, rfl, rfl, rfl, rfl, rfl, (HI.out.alloc _).full hp3 hf3⟩
          · have t3 : ((st.l.length : Int) == D) = false := by rw [beq_eq_false_iff_ne]; exact hfull
            have Hroom : Hid ((st.l.length : Int) < st.D) := Lib.hid (by have := HDD.out; omega)
            have Hd8 : Hid (st.D ≤ 8) := Lib.hid (by have := HDD.out; omega)
            have t4 : ((st.l.length : Int) + 1 != (sl.length : Int) + 1 - o) = false := by have := Hlen1.out; simp; omega
            clear hfull
            have tok : True := trivial
            go_wp2_with (first
              | (go_at_call 11; have _t := tok; go_must ((with_reducible refine (len_any p st _ (hp.alloc' _)).mono ?_); rintro e w2 ⟨rfl, rfl⟩; clear tok))
              | (go_at_call 12; go_must ((with_reducible refine (send_room p st _ q.S 0 (hp.alloc' _) (by decide) (by decide) (by rw [HS.out]; exact hs1) Hsz.out HK.out Hroom.out Hd8.out).mono ?_); rintro e w3 ⟨rfl, hp3, hf3⟩; have cc := fun i => hf3.cell (p := ⟨w.heap.size, i, none⟩) (by simp; omega) Hwp.out; have co := fun i => hf3.cell (p := ⟨wr.heap.size, i, none⟩) (by simp) Hrp.out; have own3 := ((HI.out.alloc (.cells #[.int .i64 q.On, .int .i64 q.Kind, .int .i64 q.Tick, .string q.S] 33)).turn hf3).1))
              | (at_builtin; go_must (refine wpList_append_own _ rfl _ _ 31 rfl w.heap.size 9 i0 (.string ByteArray.empty) 1 16 Try.underlying31 hi0 hz0 hz1 hz2 rfl (by decide) _ _ _ rfl (own3.alloc _) ⟨w3.heap.size, 0, none⟩ 1 1 [.string q.S] rfl rfl (news1 (by simp [go_sem])) (by simp [Value.oneCell']) (by simp only [maxLen]; omega) (by omega) (by have := hfr.size; have := hf3.size; simp at this ⊢; omega) ?_; intro v' w4 hown' hgrow _; have hp4 := (hp3.alloc' (.cells #[.string q.S] 9)).own (own3.alloc _) hgrow (by decide) (by decide); obtain ⟨g', cap'', rfl⟩ := own_succ hown'))
              | (go_at_call 11; go_must ((with_reducible refine (len_any p _ _ hp4).mono ?_); rintro e w5 ⟨rfl, rfl⟩))
              | fail)
            go_roundg (n - (k + 1))
            case measure => have := Hk.out; omega
            case rel => exact ⟨k + 1, a + 1, o, t, { st with l := st.l ++ [(q.S, 0)] }, sl ++ [q.S], _, _, _, by have := Hk.out; omega, by go_num, rfl, rfl, rfl, rfl, rfl, (HI.out.alloc _).room (hp3.alloc' _) (hf3.alloc _) Hroom.out hq255 rfl hown' hgrow⟩
    · have t5 : (a == o + (st.l.length : Int) + t + st.lost) = true := by simp; omega
      clear hk hall hmap hlen1 hK hS hDD
      go_wp2_with (first
        | (go_at_call 11; go_must ((with_reducible refine (len_any p st _ hp).mono ?_); rintro e w2 ⟨rfl, rfl⟩))
        | (go_at_call 9; go_must ((with_reducible refine (fixed_any _).mono ?_); rintro e w3 ⟨rfl, hf3⟩)))
      go_ret
      exact ⟨rfl, hfr.trans hf3⟩

theorem keeps_walk (K F T S D : Int) (A : Option Addr) (n cap : Nat) (ops : Nat → OpD) (w : World) (hs : OpsIn w (.slice A n cap) n ops) (hn : n ≤ 4398046511104) :
    Calls Try.prog 3 #[cfg K F T S D, .slice A n cap] w fun e w' => e = .returned (.bool true) ∧ Below w.heap.size w w' := by
  cases hok : okC 1 F T S D with
  | false => exact (keeps_no K F T S D _ w hok).mono fun e w' ⟨he, hf⟩ => ⟨he, hf.below (Nat.le_refl _) (by simp)⟩
  | true => exact (keeps_ok K F T S D A n cap ops w hok hs hn).mono fun e w' ⟨he, hf⟩ => ⟨he, hf.below (Nat.le_refl _) (by simp)⟩
end Go.Proofs.Ytblidpafeiiniaa

/- The program's disk: Waiting. -/
import Derived.Test.YthmnloapjdalpaaW14
import Derived.Test.YthmnloapjdalpaaSrt
namespace Go.Proofs.Ythmnloapjdalpaa
open Go.RowKit Go.Maps Go.Sort Go.Shelf
set_option linter.unusedVariables false
set_option linter.unusedSimpArgs false
theorem waiting_mem (d : Dk) (x : Int) : x ∈ d.waiting ↔ ∃ k : Nat, k < d.n ∧ (d.u k).isSome = true ∧ x = (k : Int) := by
  unfold Dk.waiting
  rw [List.mem_map]
  constructor
  · rintro ⟨k, hk, rfl⟩
    rw [List.mem_filter, List.mem_range] at hk
    exact ⟨k, hk.1, hk.2, rfl⟩
  · rintro ⟨k, h1, h2, rfl⟩
    exact ⟨k, by rw [List.mem_filter, List.mem_range]; exact ⟨h1, h2⟩, rfl⟩
theorem waiting_lt (d : Dk) : d.waiting.Pairwise (fun a b => a < b) := by
  unfold Dk.waiting
  rw [List.pairwise_map]
  exact (List.pairwise_lt_range.filter _).imp (fun {a b} h => by omega)
theorem waiting_len (d : Dk) : d.waiting.length ≤ d.n := by
  unfold Dk.waiting
  rw [List.length_map]
  have := List.length_filter_le (fun k => (d.u k).isSome) (List.range d.n)
  rw [List.length_range] at this
  exact this
theorem waiting_perm {w : World} {m : Nat} {d : Dk} {D : DataW Unit} (ho : w.ownsMap Try.prog 3 (plainElem Try.prog 9) m d.n D) (hok : d.Ok) (h1 : ∀ kl, Maps.has D kl = true → ∃ k, k < d.n ∧ kl = .int .i64 ((k : Nat) : Int))
    (h2 : ∀ k, Maps.has D (.int .i64 ((k : Nat) : Int)) = (d.u k).isSome) : d.waiting.Perm (intKeys D) := by
  obtain ⟨es, rfl, hp, hk⟩ := ho.entries law3
  refine perm_intKeys hp (fun p hp' => ?_) ((waiting_lt d).imp (fun {a b} h => by omega)) (fun x => ?_)
  · obtain ⟨k, -, e⟩ := h1 p.1 (by
      rw [Maps.has_eq, List.any_eq_true]
      exact ⟨p, hp', WideAt.sameKey_self (hk p hp')⟩)
    exact ⟨_, e⟩
  · rw [waiting_mem]
    constructor
    · rintro ⟨k, -, h4, rfl⟩
      rw [h2]
      exact h4
    · intro h
      obtain ⟨k, hk, e⟩ := h1 _ h
      have e := (Lit.int.inj e).2
      subst e
      rw [h2] at h
      exact ⟨k, hk, h, rfl⟩
/-- A row of numbers of one's own, with nothing behind it. -/
def ZOwn (base : Nat) (w : World) (v : Value) (l : List Int) : Prop :=
  (l = [] ∧ v = .slice none 0 0) ∨ ∃ (g : Nat) (cs : Array Value), v = .slice (some ⟨g, 0, none⟩) l.length l.length ∧ l.length ≤ maxLen ∧ base ≤ g ∧ Blk w g 3 cs ∧ ∀ (j : Nat) (x : Int), l[j]? = some x → cs[j]? = some (Value.int .i64 x)
def WaitP (w : World) (l : List Int) (e : Ending) (w' : World) : Prop := ∃ A, e = .returned (.slice A l.length l.length) ∧ ZOwn w.heap.size w' (.slice A l.length l.length) l ∧ Fr [] w w'
theorem ZOwn.zs {w : World} {b : Nat} {v : Value} {l : List Int} (h : ZOwn b w v l) : Zs w v l := by
  rcases h with ⟨rfl, rfl⟩ | ⟨g, cs, rfl, h1, h2, h3, h4⟩
  · exact Zs.nil w
  · exact ⟨_, _, rfl, Nat.le_refl _, h1, (fun h => by cases h), .inr ⟨g, 0, cs, _, rfl, h3, fun j x hj => by rw [Nat.zero_add]; exact h4 j x hj⟩⟩
theorem clip_any (A : Option Addr) (n cap : Nat) (h : n ≤ cap) (w : World) (hA : A = none → cap = 0) : Calls Try.prog 91 #[.slice A n cap] w fun e w' => e = .returned (.slice A n n) ∧ w = w' := by
  have hs := run_slice_hm (P := Try.prog) w 42 A n cap (by kernel_rfl) .i64 .i64 (n : Int) (n : Int) (by omega) (Int.le_refl _) (by omega)
  go_enter Try.func91, Try.ntmps91
  go_wp2
  go_ret
  exact ⟨rfl, rfl⟩
set_option maxHeartbeats 1000000 in
theorem Waiting_any (p g m : Nat) (d : Dk) (w : World) (h : DiskAt w p g m d) : Calls Try.prog 50 #[ptr p] w (WaitP w d.waiting) := by
  refine (callsIn_wide (n := 6)).1 ?_
  obtain ⟨cap, cv, ⟨c0, c1, c2, c3, c4, fz⟩, hc, hm, hz⟩ := h.cells
  have hn := h.ok.n2
  have hwn := waiting_len d
  obtain ⟨-, D0, hown, h11, h12, h13⟩ := h.um
  have hpm := waiting_perm hown h.ok h11 h12
  have hsz := hown.size_le
  have hbl := hown.lt
  have hseq : SeqGives Fence.wide 2 Try.prog 111 #[.pointer (some ⟨w.heap.size, 0, none⟩)] encZ (fun ss => ss.Perm (intKeys D0)) (Maps.size D0) (w.alloc (.cells #[.map (some m)] 108)) :=
    AnyZI.keys_gives (ρ := Try.keysA_ren) { Try.keysA with } Fence.wide _ trivial rfl (by omega) w.heap.size m d.n D0 _ (by simp) (by simp) (by
      obtain ⟨es, clock, hb, Ft, hs, hD⟩ := hown
      exact ⟨es, clock, (Below.heap_alloc _ _ m hbl).trans hb, Ft, hs, hD⟩)
  have cK : ∀ mb W, CallsIn Fence.wide 5 Try.prog 93 #[.map mb] W fun e w' => e = .returned (.func (.func 111) #[] #[.pointer (some ⟨W.heap.size, 0, none⟩)]) ∧ w' = W.alloc (.cells #[.map mb] 108) := fun mb W => AnyZI.keys_in Try.keysA Fence.wide 5 trivial rfl mb W
  have cS := AnyZI.sorted_in Try.sortedA Fence.wide 5 trivial trivial trivial trivial rfl (by omega) (Try.sortsA _) (enters_of Try.func110 (by kernel_rfl) rfl) 111 #[.pointer (some ⟨w.heap.size, 0, none⟩)] trivial (enters_of Try.func111 (by kernel_rfl) rfl) _ _ (by simp only [maxLen]; omega) (by omega) _ hseq
  change CallsIn _ _ Try.prog 92 _ _ _ at cS
  have HP := Lib.hid hpm
  have HN := Lib.hid (show d.waiting.length ≤ 4096 by omega)
  have HS := Lib.hid (List.mergeSort_of_pairwise (le := leI) ((waiting_lt d).imp (fun {a b} hab => decide_eq_true (Int.le_of_lt hab))))
  have cC : ∀ (A : Option Addr) (n cap : Nat) (hh : n ≤ cap) (W : World) (hA : A = none → cap = 0), CallsIn Fence.wide 5 Try.prog 91 #[.slice A n cap] W fun e w' => e = .returned (.slice A n n) ∧ W = w' := fun A n cap hh W hA => callsIn_wide.2 (clip_any A n cap hh W hA)
  have hfK : Fence.wide.fn 93 := trivial
  have hfS : Fence.wide.fn 92 := trivial
  have hfC : Fence.wide.fn 91 := trivial
  clear h hown h11 h12 h13 hpm hsz hseq c0 c2 c3 c4 fz hz hn hwn
  refine callsIn_of_wp Try.func50 rfl trivial ?_ rfl
  simp only [Try.ntmps50, List.size_toArray, List.length_cons, List.length_nil, Nat.reduceAdd, Nat.reduceSub, Array.replicate_succ, Array.replicate_zero, List.push_toArray, List.append_toArray, List.nil_append, List.cons_append]
  gi_wp2_with (first
    | (gi_at_call 93; refine (cK _ _).mono ?_; rintro e w' ⟨rfl, rfl⟩)
    | (gi_at_call 92; refine cS.mono ?_; rintro e w1 ⟨v, ss, rfl, hS, hrow, hnil, hb⟩
       have hl : ss.mergeSort leI = d.waiting := (mergeSort_of_perm_i (hS.trans HP.out.symm)).trans HS.out
       have hlen : ss.length = d.waiting.length := by rw [← hl, List.length_mergeSort]
       change World.ownsRow _ _ 3 1 _ _ ((ss.mergeSort leI).map encZ) at hrow
       rw [hl, hlen] at hrow
       have hff : Fr [] w w1 := ((Fr.refl [] w).alloc (.cells #[.map (some m)] 108)).trans (Fr.of_below hb (Nat.le_refl _))
       have HW : Hid (∃ A cap, v = .slice A d.waiting.length cap ∧ d.waiting.length ≤ cap ∧ (A = none → cap = 0) ∧ ZOwn w.heap.size w1 (.slice A d.waiting.length d.waiting.length) d.waiting) := Lib.hid (by
         by_cases hv : v = .slice none 0 0
         · have h0 : d.waiting = [] := by
             have := hnil.1 hv
             rw [this] at hlen
             exact List.eq_nil_of_length_eq_zero hlen.symm
           rw [hv, h0]
           exact ⟨none, 0, rfl, Nat.le_refl _, fun _ => rfl, Or.inl ⟨rfl, rfl⟩⟩
         · obtain ⟨g1, cap1, cs1, rfl, h1, h2, h3, h4, h5⟩ := own_some hrow hv
           refine ⟨_, cap1, rfl, h2, (fun h => by cases h), Or.inr ⟨g1, cs1, rfl, by simp only [maxLen]; have := HN.out; omega, by rw [World.size_alloc] at h1; omega, h4, fun j x hj => h5 j _ (by rw [List.getElem?_map, hj]; rfl)⟩⟩)
       have Hff := Lib.hid hff
       clear hrow hS hnil hb hl hlen hff
       obtain ⟨A1, cp1, rfl, hcp, hA1, -⟩ := HW.out)
    | (gi_at_call 91; refine (cC _ _ _ hcp _ hA1).mono ?_; rintro e w' ⟨rfl, rfl⟩))
  go_ret
  obtain ⟨A2, cp2, e2, -, -, hzo⟩ := HW.out
  injection e2 with e2 _ _
  subst e2
  exact ⟨A1, rfl, hzo, Hff.out⟩
end Go.Proofs.Ythmnloapjdalpaa

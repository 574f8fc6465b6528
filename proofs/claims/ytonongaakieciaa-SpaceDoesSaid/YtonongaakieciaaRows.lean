/-
  No cell of these rows narrows 'for every input' (looked for: loops, veiled, ifaces, maps, wideKeys, modest, calm, conditions, laid).
  DERIVED. THE GIVEN ROWS OF THIS SEAT. 10 by the template 'for every input the law returns true; each argument reads behind the call as it read before'; 0 by the template 'total and deterministic' (their statements: YtonongaakieciaaTotals.lean).
  GIVEN WITH THE SEED: the statements are not yours to turn. If you find one false, say at which input.
  Laid BY PROGRAM, IN A SANDBOX (cutbox-rows.mjs): the forced cells as the released guide's own fill.sh prints them over the translation a2e5f7955e2b239a… (all of the seat's roots in one cut). By AI agents, Wed Nov 11 2026. No macro, syntax, notation, axiom, sorry.
-/
import Derived.Test.YtonongaakieciaaChecked
import GoSem.Claim
import GoSem.ClaimJoined
import GoSem.ClaimMapViews
import Derived.JoinedTies
import Derived.KernelRfl
namespace Go.Proofs.Ytonongaakieciaa
/- THE CELL 'sum', in the pinned program and in every row, IS THE sha256 OF THE DUMP (.gsa) THAT YtonongaakieciaaProg.lean LOADS. Nothing in Lean hashes anything: it is a label: what it is worth is what the hold of that sum in a sandbox is worth. -/
noncomputable def Try.pinned : Pinned := { name := "ytonongaakieciaa", sum := "a2e5f7955e2b239aef00a0aaa179a041bcc390de8e239852a56b75fe28778d2e", checked := Try.checked }
namespace Rows
def none {H : Type} : Left H := { results := [], args := [] }

/-- 'castellanlaw12.SpaceBack': WHATEVER THE INPUT: true; the input reads as it did. -/
def spaceBackSpec : ChangeSpec := { name := "spaceBack", fn := fun _ => fun
  | [d1, d2, d3] => { results := [.lit (.bool true)], args := [d1, d2, d3] }
  | _ => none }
def spaceBackRow : OpenClaim := { program := "ytonongaakieciaa", sum := "a2e5f7955e2b239aef00a0aaa179a041bcc390de8e239852a56b75fe28778d2e", func := "castellan/castellanlaw12.SpaceBack", spec := "spaceBack", unfollowed := true, recurses := true, apart := false }
def SpaceBackSaid : Prop := spaceBackRow.holds Try.pinned (OpenSpec.ofChange spaceBackSpec)

/-- ITS FALSE NEIGHBOUR: 'it returns false'. Refute it at one input. -/
def spaceBackWrong : ChangeSpec := { name := "spaceBack", fn := fun _ => fun
  | [d1, d2, d3] => { results := [.lit (.bool false)], args := [d1, d2, d3] }
  | _ => none }
def SpaceBackWrongFalsely : Prop := spaceBackRow.holds Try.pinned (OpenSpec.ofChange spaceBackWrong)

/-- 'castellanlaw12.SpaceDoes': WHATEVER THE INPUT: true; the input reads as it did. -/
def spaceDoesSpec : ChangeSpec := { name := "spaceDoes", fn := fun _ => fun
  | [d1, d2] => { results := [.lit (.bool true)], args := [d1, d2] }
  | _ => none }
def spaceDoesRow : OpenClaim := { program := "ytonongaakieciaa", sum := "a2e5f7955e2b239aef00a0aaa179a041bcc390de8e239852a56b75fe28778d2e", func := "castellan/castellanlaw12.SpaceDoes", spec := "spaceDoes", unfollowed := true, recurses := true, apart := false }
def SpaceDoesSaid : Prop := spaceDoesRow.holds Try.pinned (OpenSpec.ofChange spaceDoesSpec)

/-- ITS FALSE NEIGHBOUR: 'it returns false'. Refute it at one input. -/
def spaceDoesWrong : ChangeSpec := { name := "spaceDoes", fn := fun _ => fun
  | [d1, d2] => { results := [.lit (.bool false)], args := [d1, d2] }
  | _ => none }
def SpaceDoesWrongFalsely : Prop := spaceDoesRow.holds Try.pinned (OpenSpec.ofChange spaceDoesWrong)

/-- 'castellanlaw10.VmAnswers': WHATEVER THE INPUT: true; the input reads as it did. -/
def vmAnswersSpec : ChangeSpec := { name := "vmAnswers", fn := fun _ => fun
  | [d1, d2] => { results := [.lit (.bool true)], args := [d1, d2] }
  | _ => none }
def vmAnswersRow : OpenClaim := { program := "ytonongaakieciaa", sum := "a2e5f7955e2b239aef00a0aaa179a041bcc390de8e239852a56b75fe28778d2e", func := "castellan/castellanlaw10.VmAnswers", spec := "vmAnswers", inPlace := ["internal/bytealg.IndexByteString", "internal/bytealg.IndexString"], unfollowed := true, recurses := true, named := ["internal/bytealg.MaxLen"], apart := false }
def VmAnswersSaid : Prop := vmAnswersRow.holds Try.pinned (OpenSpec.ofChange vmAnswersSpec)

/-- ITS FALSE NEIGHBOUR: 'it returns false'. Refute it at one input. -/
def vmAnswersWrong : ChangeSpec := { name := "vmAnswers", fn := fun _ => fun
  | [d1, d2] => { results := [.lit (.bool false)], args := [d1, d2] }
  | _ => none }
def VmAnswersWrongFalsely : Prop := vmAnswersRow.holds Try.pinned (OpenSpec.ofChange vmAnswersWrong)

/-- 'castellanlaw10.VmReturns': WHATEVER THE INPUT: true; the input reads as it did. -/
def vmReturnsSpec : ChangeSpec := { name := "vmReturns", fn := fun _ => fun
  | [d1, d2] => { results := [.lit (.bool true)], args := [d1, d2] }
  | _ => none }
def vmReturnsRow : OpenClaim := { program := "ytonongaakieciaa", sum := "a2e5f7955e2b239aef00a0aaa179a041bcc390de8e239852a56b75fe28778d2e", func := "castellan/castellanlaw10.VmReturns", spec := "vmReturns", inPlace := ["internal/bytealg.IndexByteString", "internal/bytealg.IndexString"], unfollowed := true, recurses := true, named := ["internal/bytealg.MaxLen"], apart := false }
def VmReturnsSaid : Prop := vmReturnsRow.holds Try.pinned (OpenSpec.ofChange vmReturnsSpec)

/-- ITS FALSE NEIGHBOUR: 'it returns false'. Refute it at one input. -/
def vmReturnsWrong : ChangeSpec := { name := "vmReturns", fn := fun _ => fun
  | [d1, d2] => { results := [.lit (.bool false)], args := [d1, d2] }
  | _ => none }
def VmReturnsWrongFalsely : Prop := vmReturnsRow.holds Try.pinned (OpenSpec.ofChange vmReturnsWrong)

/-- 'castellanlaw10.VmBlind': WHATEVER THE INPUT: true; the input reads as it did. -/
def vmBlindSpec : ChangeSpec := { name := "vmBlind", fn := fun _ => fun
  | [d1, d2, d3] => { results := [.lit (.bool true)], args := [d1, d2, d3] }
  | _ => none }
def vmBlindRow : OpenClaim := { program := "ytonongaakieciaa", sum := "a2e5f7955e2b239aef00a0aaa179a041bcc390de8e239852a56b75fe28778d2e", func := "castellan/castellanlaw10.VmBlind", spec := "vmBlind", inPlace := ["internal/bytealg.IndexByteString", "internal/bytealg.IndexString"], unfollowed := true, recurses := true, named := ["internal/bytealg.MaxLen"], apart := false }
def VmBlindSaid : Prop := vmBlindRow.holds Try.pinned (OpenSpec.ofChange vmBlindSpec)

/-- ITS FALSE NEIGHBOUR: 'it returns false'. Refute it at one input. -/
def vmBlindWrong : ChangeSpec := { name := "vmBlind", fn := fun _ => fun
  | [d1, d2, d3] => { results := [.lit (.bool false)], args := [d1, d2, d3] }
  | _ => none }
def VmBlindWrongFalsely : Prop := vmBlindRow.holds Try.pinned (OpenSpec.ofChange vmBlindWrong)

/-- 'castellanlaw10.VmOne': WHATEVER THE INPUT: true; the input reads as it did. -/
def vmOneSpec : ChangeSpec := { name := "vmOne", fn := fun _ => fun
  | [d1, d2] => { results := [.lit (.bool true)], args := [d1, d2] }
  | _ => none }
def vmOneRow : OpenClaim := { program := "ytonongaakieciaa", sum := "a2e5f7955e2b239aef00a0aaa179a041bcc390de8e239852a56b75fe28778d2e", func := "castellan/castellanlaw10.VmOne", spec := "vmOne", inPlace := ["internal/bytealg.IndexByteString", "internal/bytealg.IndexString"], unfollowed := true, recurses := true, named := ["internal/bytealg.MaxLen"], apart := false }
def VmOneSaid : Prop := vmOneRow.holds Try.pinned (OpenSpec.ofChange vmOneSpec)

/-- ITS FALSE NEIGHBOUR: 'it returns false'. Refute it at one input. -/
def vmOneWrong : ChangeSpec := { name := "vmOne", fn := fun _ => fun
  | [d1, d2] => { results := [.lit (.bool false)], args := [d1, d2] }
  | _ => none }
def VmOneWrongFalsely : Prop := vmOneRow.holds Try.pinned (OpenSpec.ofChange vmOneWrong)

/-- 'castellanlaw10.VmKeeps': WHATEVER THE INPUT: true; the input reads as it did. -/
def vmKeepsSpec : ChangeSpec := { name := "vmKeeps", fn := fun _ => fun
  | [d1, d2] => { results := [.lit (.bool true)], args := [d1, d2] }
  | _ => none }
def vmKeepsRow : OpenClaim := { program := "ytonongaakieciaa", sum := "a2e5f7955e2b239aef00a0aaa179a041bcc390de8e239852a56b75fe28778d2e", func := "castellan/castellanlaw10.VmKeeps", spec := "vmKeeps", inPlace := ["internal/bytealg.IndexByteString", "internal/bytealg.IndexString"], unfollowed := true, recurses := true, named := ["internal/bytealg.MaxLen"], apart := false }
def VmKeepsSaid : Prop := vmKeepsRow.holds Try.pinned (OpenSpec.ofChange vmKeepsSpec)

/-- ITS FALSE NEIGHBOUR: 'it returns false'. Refute it at one input. -/
def vmKeepsWrong : ChangeSpec := { name := "vmKeeps", fn := fun _ => fun
  | [d1, d2] => { results := [.lit (.bool false)], args := [d1, d2] }
  | _ => none }
def VmKeepsWrongFalsely : Prop := vmKeepsRow.holds Try.pinned (OpenSpec.ofChange vmKeepsWrong)

/-- 'castellanlaw10.VmRuns': WHATEVER THE INPUT: true; the input reads as it did. -/
def vmRunsSpec : ChangeSpec := { name := "vmRuns", fn := fun _ => fun
  | [d1, d2] => { results := [.lit (.bool true)], args := [d1, d2] }
  | _ => none }
def vmRunsRow : OpenClaim := { program := "ytonongaakieciaa", sum := "a2e5f7955e2b239aef00a0aaa179a041bcc390de8e239852a56b75fe28778d2e", func := "castellan/castellanlaw10.VmRuns", spec := "vmRuns", inPlace := ["internal/bytealg.IndexByteString", "internal/bytealg.IndexString"], unfollowed := true, recurses := true, named := ["internal/bytealg.MaxLen"], apart := false }
def VmRunsSaid : Prop := vmRunsRow.holds Try.pinned (OpenSpec.ofChange vmRunsSpec)

/-- ITS FALSE NEIGHBOUR: 'it returns false'. Refute it at one input. -/
def vmRunsWrong : ChangeSpec := { name := "vmRuns", fn := fun _ => fun
  | [d1, d2] => { results := [.lit (.bool false)], args := [d1, d2] }
  | _ => none }
def VmRunsWrongFalsely : Prop := vmRunsRow.holds Try.pinned (OpenSpec.ofChange vmRunsWrong)

/-- 'castellanlaw12.SpaceApart': WHATEVER THE INPUT: true; the input reads as it did. -/
def spaceApartSpec : ChangeSpec := { name := "spaceApart", fn := fun _ => fun
  | [d1, d2, d3] => { results := [.lit (.bool true)], args := [d1, d2, d3] }
  | _ => none }
def spaceApartRow : OpenClaim := { program := "ytonongaakieciaa", sum := "a2e5f7955e2b239aef00a0aaa179a041bcc390de8e239852a56b75fe28778d2e", func := "castellan/castellanlaw12.SpaceApart", spec := "spaceApart", inPlace := ["internal/bytealg.IndexByteString", "internal/bytealg.IndexString"], unfollowed := true, recurses := true, named := ["internal/bytealg.MaxLen"], apart := false }
def SpaceApartSaid : Prop := spaceApartRow.holds Try.pinned (OpenSpec.ofChange spaceApartSpec)

/-- ITS FALSE NEIGHBOUR: 'it returns false'. Refute it at one input. -/
def spaceApartWrong : ChangeSpec := { name := "spaceApart", fn := fun _ => fun
  | [d1, d2, d3] => { results := [.lit (.bool false)], args := [d1, d2, d3] }
  | _ => none }
def SpaceApartWrongFalsely : Prop := spaceApartRow.holds Try.pinned (OpenSpec.ofChange spaceApartWrong)

/-- 'castellanlaw12.SpaceCode': WHATEVER THE INPUT: true; the input reads as it did. -/
def spaceCodeSpec : ChangeSpec := { name := "spaceCode", fn := fun _ => fun
  | [d1, d2, d3] => { results := [.lit (.bool true)], args := [d1, d2, d3] }
  | _ => none }
def spaceCodeRow : OpenClaim := { program := "ytonongaakieciaa", sum := "a2e5f7955e2b239aef00a0aaa179a041bcc390de8e239852a56b75fe28778d2e", func := "castellan/castellanlaw12.SpaceCode", spec := "spaceCode", inPlace := ["internal/bytealg.IndexByteString", "internal/bytealg.IndexString"], unfollowed := true, recurses := true, named := ["internal/bytealg.MaxLen"], apart := false }
def SpaceCodeSaid : Prop := spaceCodeRow.holds Try.pinned (OpenSpec.ofChange spaceCodeSpec)

/-- ITS FALSE NEIGHBOUR: 'it returns false'. Refute it at one input. -/
def spaceCodeWrong : ChangeSpec := { name := "spaceCode", fn := fun _ => fun
  | [d1, d2, d3] => { results := [.lit (.bool false)], args := [d1, d2, d3] }
  | _ => none }
def SpaceCodeWrongFalsely : Prop := spaceCodeRow.holds Try.pinned (OpenSpec.ofChange spaceCodeWrong)

/- THE SECOND FORM. 'bulk': how many values and letters a reading holds, each counted each time it is reached (what is shared counts as often as it is met; a slice's spare places count too). A statement '..UptoSaid' is the law's where the arguments, and the package variables that the reading takes, are together of bulk at most 1048576: NARROWER than '..Said'. Prove '..Said' where nothing that the law and all that it calls make is longer than what came in: it says more and counts as full. Else prove '..UptoSaid'. A law counts once. -/
mutual
def uptoBulk {H : Type} : DataW H → Nat
  | .lit (.string bytes) => bytes.length + 1
  | .lit _ => 1
  | .nil => 1
  | .ptr d => uptoBulk d + 1
  | .slice elems spare => uptoBulkAll elems + uptoBulkAll spare + 1
  | .agg parts => uptoBulkAll parts + 1
  | .iface _ d => uptoBulk d + 1
  | .map entries => uptoBulkEntries entries + 1
  | .held _ => 1
def uptoBulkAll {H : Type} : List (DataW H) → Nat
  | [] => 0
  | d :: r => uptoBulk d + uptoBulkAll r
def uptoBulkEntries {H : Type} : List (Lit × DataW H) → Nat
  | [] => 0
  | x :: r => uptoBulkEntry x + uptoBulkEntries r
def uptoBulkEntry {H : Type} : Lit × DataW H → Nat
  | (.string bytes, d) => bytes.length + uptoBulk d + 1
  | (_, d) => uptoBulk d + 1
 end
def uptoSmall : (H : Type) → List (DataW H) → Bool := fun _ ds => decide (uptoBulkAll ds ≤ 1048576)
def OpenSpec.upto (s : _root_.Go.ChangeSpec) : _root_.Go.OpenSpec := { _root_.Go.OpenSpec.ofChange s with cond := some uptoSmall }

/-- 'castellanlaw12.SpaceBack', WHERE WHAT IT READS IS OF BULK AT MOST 1048576: true; the input reads as it did. -/
def spaceBackUptoRow : OpenClaim := { program := "ytonongaakieciaa", sum := "a2e5f7955e2b239aef00a0aaa179a041bcc390de8e239852a56b75fe28778d2e", func := "castellan/castellanlaw12.SpaceBack", spec := "spaceBack", unfollowed := true, recurses := true, apart := false, narrowed := true }
def SpaceBackUptoSaid : Prop := spaceBackUptoRow.holds Try.pinned (OpenSpec.upto spaceBackSpec)

/-- 'castellanlaw12.SpaceDoes', WHERE WHAT IT READS IS OF BULK AT MOST 1048576: true; the input reads as it did. -/
def spaceDoesUptoRow : OpenClaim := { program := "ytonongaakieciaa", sum := "a2e5f7955e2b239aef00a0aaa179a041bcc390de8e239852a56b75fe28778d2e", func := "castellan/castellanlaw12.SpaceDoes", spec := "spaceDoes", unfollowed := true, recurses := true, apart := false, narrowed := true }
def SpaceDoesUptoSaid : Prop := spaceDoesUptoRow.holds Try.pinned (OpenSpec.upto spaceDoesSpec)

/-- 'castellanlaw10.VmAnswers', WHERE WHAT IT READS IS OF BULK AT MOST 1048576: true; the input reads as it did. -/
def vmAnswersUptoRow : OpenClaim := { program := "ytonongaakieciaa", sum := "a2e5f7955e2b239aef00a0aaa179a041bcc390de8e239852a56b75fe28778d2e", func := "castellan/castellanlaw10.VmAnswers", spec := "vmAnswers", inPlace := ["internal/bytealg.IndexByteString", "internal/bytealg.IndexString"], unfollowed := true, recurses := true, named := ["internal/bytealg.MaxLen"], apart := false, narrowed := true }
def VmAnswersUptoSaid : Prop := vmAnswersUptoRow.holds Try.pinned (OpenSpec.upto vmAnswersSpec)

/-- 'castellanlaw10.VmReturns', WHERE WHAT IT READS IS OF BULK AT MOST 1048576: true; the input reads as it did. -/
def vmReturnsUptoRow : OpenClaim := { program := "ytonongaakieciaa", sum := "a2e5f7955e2b239aef00a0aaa179a041bcc390de8e239852a56b75fe28778d2e", func := "castellan/castellanlaw10.VmReturns", spec := "vmReturns", inPlace := ["internal/bytealg.IndexByteString", "internal/bytealg.IndexString"], unfollowed := true, recurses := true, named := ["internal/bytealg.MaxLen"], apart := false, narrowed := true }
def VmReturnsUptoSaid : Prop := vmReturnsUptoRow.holds Try.pinned (OpenSpec.upto vmReturnsSpec)

/-- 'castellanlaw10.VmBlind', WHERE WHAT IT READS IS OF BULK AT MOST 1048576: true; the input reads as it did. -/
def vmBlindUptoRow : OpenClaim := { program := "ytonongaakieciaa", sum := "a2e5f7955e2b239aef00a0aaa179a041bcc390de8e239852a56b75fe28778d2e", func := "castellan/castellanlaw10.VmBlind", spec := "vmBlind", inPlace := ["internal/bytealg.IndexByteString", "internal/bytealg.IndexString"], unfollowed := true, recurses := true, named := ["internal/bytealg.MaxLen"], apart := false, narrowed := true }
def VmBlindUptoSaid : Prop := vmBlindUptoRow.holds Try.pinned (OpenSpec.upto vmBlindSpec)

/-- 'castellanlaw10.VmOne', WHERE WHAT IT READS IS OF BULK AT MOST 1048576: true; the input reads as it did. -/
def vmOneUptoRow : OpenClaim := { program := "ytonongaakieciaa", sum := "a2e5f7955e2b239aef00a0aaa179a041bcc390de8e239852a56b75fe28778d2e", func := "castellan/castellanlaw10.VmOne", spec := "vmOne", inPlace := ["internal/bytealg.IndexByteString", "internal/bytealg.IndexString"], unfollowed := true, recurses := true, named := ["internal/bytealg.MaxLen"], apart := false, narrowed := true }
def VmOneUptoSaid : Prop := vmOneUptoRow.holds Try.pinned (OpenSpec.upto vmOneSpec)

/-- 'castellanlaw10.VmKeeps', WHERE WHAT IT READS IS OF BULK AT MOST 1048576: true; the input reads as it did. -/
def vmKeepsUptoRow : OpenClaim := { program := "ytonongaakieciaa", sum := "a2e5f7955e2b239aef00a0aaa179a041bcc390de8e239852a56b75fe28778d2e", func := "castellan/castellanlaw10.VmKeeps", spec := "vmKeeps", inPlace := ["internal/bytealg.IndexByteString", "internal/bytealg.IndexString"], unfollowed := true, recurses := true, named := ["internal/bytealg.MaxLen"], apart := false, narrowed := true }
def VmKeepsUptoSaid : Prop := vmKeepsUptoRow.holds Try.pinned (OpenSpec.upto vmKeepsSpec)

/-- 'castellanlaw10.VmRuns', WHERE WHAT IT READS IS OF BULK AT MOST 1048576: true; the input reads as it did. -/
def vmRunsUptoRow : OpenClaim := { program := "ytonongaakieciaa", sum := "a2e5f7955e2b239aef00a0aaa179a041bcc390de8e239852a56b75fe28778d2e", func := "castellan/castellanlaw10.VmRuns", spec := "vmRuns", inPlace := ["internal/bytealg.IndexByteString", "internal/bytealg.IndexString"], unfollowed := true, recurses := true, named := ["internal/bytealg.MaxLen"], apart := false, narrowed := true }
def VmRunsUptoSaid : Prop := vmRunsUptoRow.holds Try.pinned (OpenSpec.upto vmRunsSpec)

/-- 'castellanlaw12.SpaceApart', WHERE WHAT IT READS IS OF BULK AT MOST 1048576: true; the input reads as it did. -/
def spaceApartUptoRow : OpenClaim := { program := "ytonongaakieciaa", sum := "a2e5f7955e2b239aef00a0aaa179a041bcc390de8e239852a56b75fe28778d2e", func := "castellan/castellanlaw12.SpaceApart", spec := "spaceApart", inPlace := ["internal/bytealg.IndexByteString", "internal/bytealg.IndexString"], unfollowed := true, recurses := true, named := ["internal/bytealg.MaxLen"], apart := false, narrowed := true }
def SpaceApartUptoSaid : Prop := spaceApartUptoRow.holds Try.pinned (OpenSpec.upto spaceApartSpec)

/-- 'castellanlaw12.SpaceCode', WHERE WHAT IT READS IS OF BULK AT MOST 1048576: true; the input reads as it did. -/
def spaceCodeUptoRow : OpenClaim := { program := "ytonongaakieciaa", sum := "a2e5f7955e2b239aef00a0aaa179a041bcc390de8e239852a56b75fe28778d2e", func := "castellan/castellanlaw12.SpaceCode", spec := "spaceCode", inPlace := ["internal/bytealg.IndexByteString", "internal/bytealg.IndexString"], unfollowed := true, recurses := true, named := ["internal/bytealg.MaxLen"], apart := false, narrowed := true }
def SpaceCodeUptoSaid : Prop := spaceCodeUptoRow.holds Try.pinned (OpenSpec.upto spaceCodeSpec)

end Rows
end Go.Proofs.Ytonongaakieciaa

/-
  No cell of these rows narrows 'for every input' (looked for: loops, veiled, ifaces, maps, wideKeys, modest, calm, conditions, laid).
  DERIVED. THE GIVEN ROWS OF THIS SEAT. 9 by the template 'for every input the law returns true; each argument reads behind the call as it read before'; 0 by the template 'total and deterministic' (their statements: YtkogmpeodamdgaaTotals.lean).
  GIVEN WITH THE SEED: the statements are not yours to turn. If you find one false, say at which input.
  Laid BY PROGRAM, IN A SANDBOX (cutbox-rows.mjs): the forced cells as the released guide's own fill.sh prints them over the translation ea678baa4fe341a9… (all of the seat's roots in one cut). By AI agents, Wed Nov 11 2026. No macro, syntax, notation, axiom, sorry.
-/
import Derived.Test.YtkogmpeodamdgaaChecked
import GoSem.Claim
import GoSem.ClaimJoined
import GoSem.ClaimMapViews
import Derived.JoinedTies
import Derived.KernelRfl
namespace Go.Proofs.Ytkogmpeodamdgaa
/- THE CELL 'sum', in the pinned program and in every row, IS THE sha256 OF THE DUMP (.gsa) THAT YtkogmpeodamdgaaProg.lean LOADS. Nothing in Lean hashes anything: it is a label: what it is worth is what the hold of that sum in a sandbox is worth. -/
noncomputable def Try.pinned : Pinned := { name := "ytkogmpeodamdgaa", sum := "ea678baa4fe341a9279966575cf6c1c3c11a7d9694e628a00b2b7b9620f0c53d", checked := Try.checked }
namespace Rows
def none {H : Type} : Left H := { results := [], args := [] }

/-- 'hostlerlaw25.WatchTells': WHATEVER THE INPUT: true; the input reads as it did. -/
def watchTellsSpec : ChangeSpec := { name := "watchTells", fn := fun _ => fun
  | [d1, d2, d3, d4, d5] => { results := [.lit (.bool true)], args := [d1, d2, d3, d4, d5] }
  | _ => none }
def watchTellsRow : OpenClaim := { program := "ytkogmpeodamdgaa", sum := "ea678baa4fe341a9279966575cf6c1c3c11a7d9694e628a00b2b7b9620f0c53d", func := "hostler/hostlerlaw25.WatchTells", spec := "watchTells", plainKeys := false, apart := false }
def WatchTellsSaid : Prop := watchTellsRow.holds Try.pinned (OpenSpec.ofChange watchTellsSpec)

/-- ITS FALSE NEIGHBOUR: 'it returns false'. Refute it at one input. -/
def watchTellsWrong : ChangeSpec := { name := "watchTells", fn := fun _ => fun
  | [d1, d2, d3, d4, d5] => { results := [.lit (.bool false)], args := [d1, d2, d3, d4, d5] }
  | _ => none }
def WatchTellsWrongFalsely : Prop := watchTellsRow.holds Try.pinned (OpenSpec.ofChange watchTellsWrong)

/-- 'hostlerlaw16.CrewPlays': WHATEVER THE INPUT: true; the input reads as it did. -/
def crewPlaysSpec : ChangeSpec := { name := "crewPlays", fn := fun _ => fun
  | [d1, d2] => { results := [.lit (.bool true)], args := [d1, d2] }
  | _ => none }
def crewPlaysRow : OpenClaim := { program := "ytkogmpeodamdgaa", sum := "ea678baa4fe341a9279966575cf6c1c3c11a7d9694e628a00b2b7b9620f0c53d", func := "hostler/hostlerlaw16.CrewPlays", spec := "crewPlays", unfollowed := true, recurses := true, plainKeys := false, apart := false }
def CrewPlaysSaid : Prop := crewPlaysRow.holds Try.pinned (OpenSpec.ofChange crewPlaysSpec)

/-- ITS FALSE NEIGHBOUR: 'it returns false'. Refute it at one input. -/
def crewPlaysWrong : ChangeSpec := { name := "crewPlays", fn := fun _ => fun
  | [d1, d2] => { results := [.lit (.bool false)], args := [d1, d2] }
  | _ => none }
def CrewPlaysWrongFalsely : Prop := crewPlaysRow.holds Try.pinned (OpenSpec.ofChange crewPlaysWrong)

/-- 'hostlerlaw16.CrewLate': WHATEVER THE INPUT: true; the input reads as it did. -/
def crewLateSpec : ChangeSpec := { name := "crewLate", fn := fun _ => fun
  | [d1, d2, d3] => { results := [.lit (.bool true)], args := [d1, d2, d3] }
  | _ => none }
def crewLateRow : OpenClaim := { program := "ytkogmpeodamdgaa", sum := "ea678baa4fe341a9279966575cf6c1c3c11a7d9694e628a00b2b7b9620f0c53d", func := "hostler/hostlerlaw16.CrewLate", spec := "crewLate", unfollowed := true, recurses := true, plainKeys := false, apart := false }
def CrewLateSaid : Prop := crewLateRow.holds Try.pinned (OpenSpec.ofChange crewLateSpec)

/-- ITS FALSE NEIGHBOUR: 'it returns false'. Refute it at one input. -/
def crewLateWrong : ChangeSpec := { name := "crewLate", fn := fun _ => fun
  | [d1, d2, d3] => { results := [.lit (.bool false)], args := [d1, d2, d3] }
  | _ => none }
def CrewLateWrongFalsely : Prop := crewLateRow.holds Try.pinned (OpenSpec.ofChange crewLateWrong)

/-- 'hostlerlaw23.HandsApart': WHATEVER THE INPUT: true; the input reads as it did. -/
def handsApartSpec : ChangeSpec := { name := "handsApart", fn := fun _ => fun
  | [d] => { results := [.lit (.bool true)], args := [d] }
  | _ => none }
def handsApartRow : OpenClaim := { program := "ytkogmpeodamdgaa", sum := "ea678baa4fe341a9279966575cf6c1c3c11a7d9694e628a00b2b7b9620f0c53d", func := "hostler/hostlerlaw23.HandsApart", spec := "handsApart", unfollowed := true, recurses := true, plainKeys := false, apart := false }
def HandsApartSaid : Prop := handsApartRow.holds Try.pinned (OpenSpec.ofChange handsApartSpec)

/-- ITS FALSE NEIGHBOUR: 'it returns false'. Refute it at one input. -/
def handsApartWrong : ChangeSpec := { name := "handsApart", fn := fun _ => fun
  | [d] => { results := [.lit (.bool false)], args := [d] }
  | _ => none }
def HandsApartWrongFalsely : Prop := handsApartRow.holds Try.pinned (OpenSpec.ofChange handsApartWrong)

/-- 'hostlerlaw23.HandsWork': WHATEVER THE INPUT: true; the input reads as it did. -/
def handsWorkSpec : ChangeSpec := { name := "handsWork", fn := fun _ => fun
  | [d1, d2, d3] => { results := [.lit (.bool true)], args := [d1, d2, d3] }
  | _ => none }
def handsWorkRow : OpenClaim := { program := "ytkogmpeodamdgaa", sum := "ea678baa4fe341a9279966575cf6c1c3c11a7d9694e628a00b2b7b9620f0c53d", func := "hostler/hostlerlaw23.HandsWork", spec := "handsWork", unfollowed := true, recurses := true, plainKeys := false, apart := false }
def HandsWorkSaid : Prop := handsWorkRow.holds Try.pinned (OpenSpec.ofChange handsWorkSpec)

/-- ITS FALSE NEIGHBOUR: 'it returns false'. Refute it at one input. -/
def handsWorkWrong : ChangeSpec := { name := "handsWork", fn := fun _ => fun
  | [d1, d2, d3] => { results := [.lit (.bool false)], args := [d1, d2, d3] }
  | _ => none }
def HandsWorkWrongFalsely : Prop := handsWorkRow.holds Try.pinned (OpenSpec.ofChange handsWorkWrong)

/-- 'hostlerlaw23.HandsPlay': WHATEVER THE INPUT: true; the input reads as it did. -/
def handsPlaySpec : ChangeSpec := { name := "handsPlay", fn := fun _ => fun
  | [d1, d2, d3] => { results := [.lit (.bool true)], args := [d1, d2, d3] }
  | _ => none }
def handsPlayRow : OpenClaim := { program := "ytkogmpeodamdgaa", sum := "ea678baa4fe341a9279966575cf6c1c3c11a7d9694e628a00b2b7b9620f0c53d", func := "hostler/hostlerlaw23.HandsPlay", spec := "handsPlay", unfollowed := true, recurses := true, plainKeys := false, apart := false }
def HandsPlaySaid : Prop := handsPlayRow.holds Try.pinned (OpenSpec.ofChange handsPlaySpec)

/-- ITS FALSE NEIGHBOUR: 'it returns false'. Refute it at one input. -/
def handsPlayWrong : ChangeSpec := { name := "handsPlay", fn := fun _ => fun
  | [d1, d2, d3] => { results := [.lit (.bool false)], args := [d1, d2, d3] }
  | _ => none }
def HandsPlayWrongFalsely : Prop := handsPlayRow.holds Try.pinned (OpenSpec.ofChange handsPlayWrong)

/-- 'hostlerlaw15.BinOrder': WHATEVER THE INPUT: true; the input reads as it did. -/
def binOrderSpec : ChangeSpec := { name := "binOrder", fn := fun _ => fun
  | [d1, d2, d3] => { results := [.lit (.bool true)], args := [d1, d2, d3] }
  | _ => none }
def binOrderRow : OpenClaim := { program := "ytkogmpeodamdgaa", sum := "ea678baa4fe341a9279966575cf6c1c3c11a7d9694e628a00b2b7b9620f0c53d", func := "hostler/hostlerlaw15.BinOrder", spec := "binOrder", unfollowed := true, recurses := true, plainKeys := false, apart := false }
def BinOrderSaid : Prop := binOrderRow.holds Try.pinned (OpenSpec.ofChange binOrderSpec)

/-- ITS FALSE NEIGHBOUR: 'it returns false'. Refute it at one input. -/
def binOrderWrong : ChangeSpec := { name := "binOrder", fn := fun _ => fun
  | [d1, d2, d3] => { results := [.lit (.bool false)], args := [d1, d2, d3] }
  | _ => none }
def BinOrderWrongFalsely : Prop := binOrderRow.holds Try.pinned (OpenSpec.ofChange binOrderWrong)

/-- 'hostlerlaw15.BinCopies': WHATEVER THE INPUT: true; the input reads as it did. -/
def binCopiesSpec : ChangeSpec := { name := "binCopies", fn := fun _ => fun
  | [d1, d2] => { results := [.lit (.bool true)], args := [d1, d2] }
  | _ => none }
def binCopiesRow : OpenClaim := { program := "ytkogmpeodamdgaa", sum := "ea678baa4fe341a9279966575cf6c1c3c11a7d9694e628a00b2b7b9620f0c53d", func := "hostler/hostlerlaw15.BinCopies", spec := "binCopies", unfollowed := true, recurses := true, plainKeys := false, apart := false }
def BinCopiesSaid : Prop := binCopiesRow.holds Try.pinned (OpenSpec.ofChange binCopiesSpec)

/-- ITS FALSE NEIGHBOUR: 'it returns false'. Refute it at one input. -/
def binCopiesWrong : ChangeSpec := { name := "binCopies", fn := fun _ => fun
  | [d1, d2] => { results := [.lit (.bool false)], args := [d1, d2] }
  | _ => none }
def BinCopiesWrongFalsely : Prop := binCopiesRow.holds Try.pinned (OpenSpec.ofChange binCopiesWrong)

/-- 'hostlerlaw15.BinPlays': WHATEVER THE INPUT: true; the input reads as it did. -/
def binPlaysSpec : ChangeSpec := { name := "binPlays", fn := fun _ => fun
  | [d1, d2, d3] => { results := [.lit (.bool true)], args := [d1, d2, d3] }
  | _ => none }
def binPlaysRow : OpenClaim := { program := "ytkogmpeodamdgaa", sum := "ea678baa4fe341a9279966575cf6c1c3c11a7d9694e628a00b2b7b9620f0c53d", func := "hostler/hostlerlaw15.BinPlays", spec := "binPlays", unfollowed := true, recurses := true, plainKeys := false, apart := false }
def BinPlaysSaid : Prop := binPlaysRow.holds Try.pinned (OpenSpec.ofChange binPlaysSpec)

/-- ITS FALSE NEIGHBOUR: 'it returns false'. Refute it at one input. -/
def binPlaysWrong : ChangeSpec := { name := "binPlays", fn := fun _ => fun
  | [d1, d2, d3] => { results := [.lit (.bool false)], args := [d1, d2, d3] }
  | _ => none }
def BinPlaysWrongFalsely : Prop := binPlaysRow.holds Try.pinned (OpenSpec.ofChange binPlaysWrong)

/- THE SECOND FORM. 'bulk': how many values and letters a reading holds, each counted each time it is reached (what is shared counts as often as it is met; a slice's spare places count too). A statement '..UptoSaid' is the law's where the arguments, and the package variables that the reading takes, are together of bulk at most 1048576: NARROWER than '..Said'. Prove '..Said' where nothing that the law and all that it calls make is longer than what came in: it says more and counts as full. Else prove '..UptoSaid'. A law counts once. -/
mutual
def uptoBulk {H : Type} : DataW H → Nat
  | .lit (.string bytes) => bytes.length + 1
  | .lit _ => 1
  | .nil => 1
  | .ptr d => uptoBulk d + 1
  | .slice elems spare => uptoBulkAll elems + uptoBulkAll spare + 1
  | .agg parts => uptoBulkAll parts + 1
  | .iface _ d => uptoBulk d + 1
  | .map entries => uptoBulkEntries entries + 1
  | .held _ => 1
def uptoBulkAll {H : Type} : List (DataW H) → Nat
  | [] => 0
  | d :: r => uptoBulk d + uptoBulkAll r
def uptoBulkEntries {H : Type} : List (Lit × DataW H) → Nat
  | [] => 0
  | x :: r => uptoBulkEntry x + uptoBulkEntries r
def uptoBulkEntry {H : Type} : Lit × DataW H → Nat
  | (.string bytes, d) => bytes.length + uptoBulk d + 1
  | (_, d) => uptoBulk d + 1
 end
def uptoSmall : (H : Type) → List (DataW H) → Bool := fun _ ds => decide (uptoBulkAll ds ≤ 1048576)
def OpenSpec.upto (s : _root_.Go.ChangeSpec) : _root_.Go.OpenSpec := { _root_.Go.OpenSpec.ofChange s with cond := some uptoSmall }

/-- 'hostlerlaw25.WatchTells', WHERE WHAT IT READS IS OF BULK AT MOST 1048576: true; the input reads as it did. -/
def watchTellsUptoRow : OpenClaim := { program := "ytkogmpeodamdgaa", sum := "ea678baa4fe341a9279966575cf6c1c3c11a7d9694e628a00b2b7b9620f0c53d", func := "hostler/hostlerlaw25.WatchTells", spec := "watchTells", plainKeys := false, apart := false, narrowed := true }
def WatchTellsUptoSaid : Prop := watchTellsUptoRow.holds Try.pinned (OpenSpec.upto watchTellsSpec)

/-- 'hostlerlaw16.CrewPlays', WHERE WHAT IT READS IS OF BULK AT MOST 1048576: true; the input reads as it did. -/
def crewPlaysUptoRow : OpenClaim := { program := "ytkogmpeodamdgaa", sum := "ea678baa4fe341a9279966575cf6c1c3c11a7d9694e628a00b2b7b9620f0c53d", func := "hostler/hostlerlaw16.CrewPlays", spec := "crewPlays", unfollowed := true, recurses := true, plainKeys := false, apart := false, narrowed := true }
def CrewPlaysUptoSaid : Prop := crewPlaysUptoRow.holds Try.pinned (OpenSpec.upto crewPlaysSpec)

/-- 'hostlerlaw16.CrewLate', WHERE WHAT IT READS IS OF BULK AT MOST 1048576: true; the input reads as it did. -/
def crewLateUptoRow : OpenClaim := { program := "ytkogmpeodamdgaa", sum := "ea678baa4fe341a9279966575cf6c1c3c11a7d9694e628a00b2b7b9620f0c53d", func := "hostler/hostlerlaw16.CrewLate", spec := "crewLate", unfollowed := true, recurses := true, plainKeys := false, apart := false, narrowed := true }
def CrewLateUptoSaid : Prop := crewLateUptoRow.holds Try.pinned (OpenSpec.upto crewLateSpec)

/-- 'hostlerlaw23.HandsApart', WHERE WHAT IT READS IS OF BULK AT MOST 1048576: true; the input reads as it did. -/
def handsApartUptoRow : OpenClaim := { program := "ytkogmpeodamdgaa", sum := "ea678baa4fe341a9279966575cf6c1c3c11a7d9694e628a00b2b7b9620f0c53d", func := "hostler/hostlerlaw23.HandsApart", spec := "handsApart", unfollowed := true, recurses := true, plainKeys := false, apart := false, narrowed := true }
def HandsApartUptoSaid : Prop := handsApartUptoRow.holds Try.pinned (OpenSpec.upto handsApartSpec)

/-- 'hostlerlaw23.HandsWork', WHERE WHAT IT READS IS OF BULK AT MOST 1048576: true; the input reads as it did. -/
def handsWorkUptoRow : OpenClaim := { program := "ytkogmpeodamdgaa", sum := "ea678baa4fe341a9279966575cf6c1c3c11a7d9694e628a00b2b7b9620f0c53d", func := "hostler/hostlerlaw23.HandsWork", spec := "handsWork", unfollowed := true, recurses := true, plainKeys := false, apart := false, narrowed := true }
def HandsWorkUptoSaid : Prop := handsWorkUptoRow.holds Try.pinned (OpenSpec.upto handsWorkSpec)

/-- 'hostlerlaw23.HandsPlay', WHERE WHAT IT READS IS OF BULK AT MOST 1048576: true; the input reads as it did. -/
def handsPlayUptoRow : OpenClaim := { program := "ytkogmpeodamdgaa", sum := "ea678baa4fe341a9279966575cf6c1c3c11a7d9694e628a00b2b7b9620f0c53d", func := "hostler/hostlerlaw23.HandsPlay", spec := "handsPlay", unfollowed := true, recurses := true, plainKeys := false, apart := false, narrowed := true }
def HandsPlayUptoSaid : Prop := handsPlayUptoRow.holds Try.pinned (OpenSpec.upto handsPlaySpec)

/-- 'hostlerlaw15.BinOrder', WHERE WHAT IT READS IS OF BULK AT MOST 1048576: true; the input reads as it did. -/
def binOrderUptoRow : OpenClaim := { program := "ytkogmpeodamdgaa", sum := "ea678baa4fe341a9279966575cf6c1c3c11a7d9694e628a00b2b7b9620f0c53d", func := "hostler/hostlerlaw15.BinOrder", spec := "binOrder", unfollowed := true, recurses := true, plainKeys := false, apart := false, narrowed := true }
def BinOrderUptoSaid : Prop := binOrderUptoRow.holds Try.pinned (OpenSpec.upto binOrderSpec)

/-- 'hostlerlaw15.BinCopies', WHERE WHAT IT READS IS OF BULK AT MOST 1048576: true; the input reads as it did. -/
def binCopiesUptoRow : OpenClaim := { program := "ytkogmpeodamdgaa", sum := "ea678baa4fe341a9279966575cf6c1c3c11a7d9694e628a00b2b7b9620f0c53d", func := "hostler/hostlerlaw15.BinCopies", spec := "binCopies", unfollowed := true, recurses := true, plainKeys := false, apart := false, narrowed := true }
def BinCopiesUptoSaid : Prop := binCopiesUptoRow.holds Try.pinned (OpenSpec.upto binCopiesSpec)

/-- 'hostlerlaw15.BinPlays', WHERE WHAT IT READS IS OF BULK AT MOST 1048576: true; the input reads as it did. -/
def binPlaysUptoRow : OpenClaim := { program := "ytkogmpeodamdgaa", sum := "ea678baa4fe341a9279966575cf6c1c3c11a7d9694e628a00b2b7b9620f0c53d", func := "hostler/hostlerlaw15.BinPlays", spec := "binPlays", unfollowed := true, recurses := true, plainKeys := false, apart := false, narrowed := true }
def BinPlaysUptoSaid : Prop := binPlaysUptoRow.holds Try.pinned (OpenSpec.upto binPlaysSpec)

end Rows
end Go.Proofs.Ytkogmpeodamdgaa

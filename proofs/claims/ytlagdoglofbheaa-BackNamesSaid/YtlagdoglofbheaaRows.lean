/-
  No cell of these rows narrows 'for every input' (looked for: loops, veiled, ifaces, maps, wideKeys, modest, calm, conditions, laid).
  DERIVED. THE GIVEN ROWS OF THIS SEAT. 3 by the template 'for every input the law returns true; each argument reads behind the call as it read before'; 0 by the template 'total and deterministic' (their statements: YtlagdoglofbheaaTotals.lean).
  GIVEN WITH THE SEED: the statements are not yours to turn. If you find one false, say at which input.
  Laid BY PROGRAM, IN A SANDBOX (cutbox-rows.mjs): the forced cells as the released guide's own fill.sh prints them over the translation 6d3b59f4b5229ba8… (all of the seat's roots in one cut). By AI agents, Wed Nov 11 2026. No macro, syntax, notation, axiom, sorry.
-/
import Derived.Test.YtlagdoglofbheaaChecked
import GoSem.Claim
import GoSem.ClaimJoined
import GoSem.ClaimMapViews
import Derived.JoinedTies
import Derived.KernelRfl
namespace Go.Proofs.Ytlagdoglofbheaa
/- THE CELL 'sum', in the pinned program and in every row, IS THE sha256 OF THE DUMP (.gsa) THAT YtlagdoglofbheaaProg.lean LOADS. Nothing in Lean hashes anything: it is a label: what it is worth is what the hold of that sum in a sandbox is worth. -/
noncomputable def Try.pinned : Pinned := { name := "ytlagdoglofbheaa", sum := "6d3b59f4b5229ba81340503095329f5a15017041fcf32c615c47466dad209632", checked := Try.checked }
namespace Rows
def none {H : Type} : Left H := { results := [], args := [] }

/-- 'wainscotlaw23.BackAlone': WHATEVER THE INPUT: true; the input reads as it did. -/
def backAloneSpec : ChangeSpec := { name := "backAlone", fn := fun _ => fun
  | [d1, d2, d3] => { results := [.lit (.bool true)], args := [d1, d2, d3] }
  | _ => none }
def backAloneRow : OpenClaim := { program := "ytlagdoglofbheaa", sum := "6d3b59f4b5229ba81340503095329f5a15017041fcf32c615c47466dad209632", func := "wainscot/wainscotlaw23.BackAlone", spec := "backAlone", unfollowed := true, recurses := true, apart := false }
def BackAloneSaid : Prop := backAloneRow.holds Try.pinned (OpenSpec.ofChange backAloneSpec)

/-- ITS FALSE NEIGHBOUR: 'it returns false'. Refute it at one input. -/
def backAloneWrong : ChangeSpec := { name := "backAlone", fn := fun _ => fun
  | [d1, d2, d3] => { results := [.lit (.bool false)], args := [d1, d2, d3] }
  | _ => none }
def BackAloneWrongFalsely : Prop := backAloneRow.holds Try.pinned (OpenSpec.ofChange backAloneWrong)

/-- 'wainscotlaw23.BackAll': WHATEVER THE INPUT: true; the input reads as it did. -/
def backAllSpec : ChangeSpec := { name := "backAll", fn := fun _ => fun
  | [d1, d2, d3] => { results := [.lit (.bool true)], args := [d1, d2, d3] }
  | _ => none }
def backAllRow : OpenClaim := { program := "ytlagdoglofbheaa", sum := "6d3b59f4b5229ba81340503095329f5a15017041fcf32c615c47466dad209632", func := "wainscot/wainscotlaw23.BackAll", spec := "backAll", unfollowed := true, recurses := true, apart := false }
def BackAllSaid : Prop := backAllRow.holds Try.pinned (OpenSpec.ofChange backAllSpec)

/-- ITS FALSE NEIGHBOUR: 'it returns false'. Refute it at one input. -/
def backAllWrong : ChangeSpec := { name := "backAll", fn := fun _ => fun
  | [d1, d2, d3] => { results := [.lit (.bool false)], args := [d1, d2, d3] }
  | _ => none }
def BackAllWrongFalsely : Prop := backAllRow.holds Try.pinned (OpenSpec.ofChange backAllWrong)

/-- 'wainscotlaw23.BackNames': WHATEVER THE INPUT: true; the input reads as it did. -/
def backNamesSpec : ChangeSpec := { name := "backNames", fn := fun _ => fun
  | [] => { results := [.lit (.bool true)], args := [] }
  | _ => none }
def backNamesRow : OpenClaim := { program := "ytlagdoglofbheaa", sum := "6d3b59f4b5229ba81340503095329f5a15017041fcf32c615c47466dad209632", func := "wainscot/wainscotlaw23.BackNames", spec := "backNames", unfollowed := true, recurses := true, apart := false }
def BackNamesSaid : Prop := backNamesRow.holds Try.pinned (OpenSpec.ofChange backNamesSpec)

/-- ITS FALSE NEIGHBOUR: 'it returns false'. Refute it at one input. -/
def backNamesWrong : ChangeSpec := { name := "backNames", fn := fun _ => fun
  | [] => { results := [.lit (.bool false)], args := [] }
  | _ => none }
def BackNamesWrongFalsely : Prop := backNamesRow.holds Try.pinned (OpenSpec.ofChange backNamesWrong)

/- THE SECOND FORM. 'bulk': how many values and letters a reading holds, each counted each time it is reached (what is shared counts as often as it is met; a slice's spare places count too). A statement '..UptoSaid' is the law's where the arguments, and the package variables that the reading takes, are together of bulk at most 1048576: NARROWER than '..Said'. Prove '..Said' where nothing that the law and all that it calls make is longer than what came in: it says more and counts as full. Else prove '..UptoSaid'. A law counts once. -/
mutual
def uptoBulk {H : Type} : DataW H → Nat
  | .lit (.string bytes) => bytes.length + 1
  | .lit _ => 1
  | .nil => 1
  | .ptr d => uptoBulk d + 1
  | .slice elems spare => uptoBulkAll elems + uptoBulkAll spare + 1
  | .agg parts => uptoBulkAll parts + 1
  | .iface _ d => uptoBulk d + 1
  | .map entries => uptoBulkEntries entries + 1
  | .held _ => 1
def uptoBulkAll {H : Type} : List (DataW H) → Nat
  | [] => 0
  | d :: r => uptoBulk d + uptoBulkAll r
def uptoBulkEntries {H : Type} : List (Lit × DataW H) → Nat
  | [] => 0
  | x :: r => uptoBulkEntry x + uptoBulkEntries r
def uptoBulkEntry {H : Type} : Lit × DataW H → Nat
  | (.string bytes, d) => bytes.length + uptoBulk d + 1
  | (_, d) => uptoBulk d + 1
 end
def uptoSmall : (H : Type) → List (DataW H) → Bool := fun _ ds => decide (uptoBulkAll ds ≤ 1048576)
def OpenSpec.upto (s : _root_.Go.ChangeSpec) : _root_.Go.OpenSpec := { _root_.Go.OpenSpec.ofChange s with cond := some uptoSmall }

/-- 'wainscotlaw23.BackAlone', WHERE WHAT IT READS IS OF BULK AT MOST 1048576: true; the input reads as it did. -/
def backAloneUptoRow : OpenClaim := { program := "ytlagdoglofbheaa", sum := "6d3b59f4b5229ba81340503095329f5a15017041fcf32c615c47466dad209632", func := "wainscot/wainscotlaw23.BackAlone", spec := "backAlone", unfollowed := true, recurses := true, apart := false, narrowed := true }
def BackAloneUptoSaid : Prop := backAloneUptoRow.holds Try.pinned (OpenSpec.upto backAloneSpec)

/-- 'wainscotlaw23.BackAll', WHERE WHAT IT READS IS OF BULK AT MOST 1048576: true; the input reads as it did. -/
def backAllUptoRow : OpenClaim := { program := "ytlagdoglofbheaa", sum := "6d3b59f4b5229ba81340503095329f5a15017041fcf32c615c47466dad209632", func := "wainscot/wainscotlaw23.BackAll", spec := "backAll", unfollowed := true, recurses := true, apart := false, narrowed := true }
def BackAllUptoSaid : Prop := backAllUptoRow.holds Try.pinned (OpenSpec.upto backAllSpec)

/-- 'wainscotlaw23.BackNames', WHERE WHAT IT READS IS OF BULK AT MOST 1048576: true; the input reads as it did. -/
def backNamesUptoRow : OpenClaim := { program := "ytlagdoglofbheaa", sum := "6d3b59f4b5229ba81340503095329f5a15017041fcf32c615c47466dad209632", func := "wainscot/wainscotlaw23.BackNames", spec := "backNames", unfollowed := true, recurses := true, apart := false, narrowed := true }
def BackNamesUptoSaid : Prop := backNamesUptoRow.holds Try.pinned (OpenSpec.upto backNamesSpec)

end Rows
end Go.Proofs.Ytlagdoglofbheaa

/-
  No cell of these rows narrows 'for every input' (looked for: loops, veiled, ifaces, maps, wideKeys, modest, calm, conditions, laid).
  DERIVED. THE GIVEN ROWS OF THIS SEAT. 7 by the template 'for every input the law returns true; each argument reads behind the call as it read before'; 0 by the template 'total and deterministic' (their statements: YtlobceldlegnlaaTotals.lean).
  GIVEN WITH THE SEED: the statements are not yours to turn. If you find one false, say at which input.
  Laid BY PROGRAM, IN A SANDBOX (cutbox-rows.mjs): the forced cells as the released guide's own fill.sh prints them over the translation 1e093a84aa24c06b… (all of the seat's roots in one cut). By AI agents, Wed Nov 11 2026. No macro, syntax, notation, axiom, sorry.
-/
import Derived.Test.YtlobceldlegnlaaChecked
import GoSem.Claim
import GoSem.ClaimJoined
import GoSem.ClaimMapViews
import Derived.JoinedTies
import Derived.KernelRfl
namespace Go.Proofs.Ytlobceldlegnlaa
/- THE CELL 'sum', in the pinned program and in every row, IS THE sha256 OF THE DUMP (.gsa) THAT YtlobceldlegnlaaProg.lean LOADS. Nothing in Lean hashes anything: it is a label: what it is worth is what the hold of that sum in a sandbox is worth. -/
noncomputable def Try.pinned : Pinned := { name := "ytlobceldlegnlaa", sum := "1e093a84aa24c06b60c98c27ff7ea1a0b09ea7bfb00501098b60d4e33f9ca450", checked := Try.checked }
namespace Rows
def none {H : Type} : Left H := { results := [], args := [] }

/-- 'culvertlaw02.SumCalls': WHATEVER THE INPUT: true; the input reads as it did. -/
def sumCallsSpec : ChangeSpec := { name := "sumCalls", fn := fun _ => fun
  | [d] => { results := [.lit (.bool true)], args := [d] }
  | _ => none }
def sumCallsRow : OpenClaim := { program := "ytlobceldlegnlaa", sum := "1e093a84aa24c06b60c98c27ff7ea1a0b09ea7bfb00501098b60d4e33f9ca450", func := "culvert/culvertlaw02.SumCalls", spec := "sumCalls", unfollowed := true, recurses := true, apart := false }
def SumCallsSaid : Prop := sumCallsRow.holds Try.pinned (OpenSpec.ofChange sumCallsSpec)

/-- ITS FALSE NEIGHBOUR: 'it returns false'. Refute it at one input. -/
def sumCallsWrong : ChangeSpec := { name := "sumCalls", fn := fun _ => fun
  | [d] => { results := [.lit (.bool false)], args := [d] }
  | _ => none }
def SumCallsWrongFalsely : Prop := sumCallsRow.holds Try.pinned (OpenSpec.ofChange sumCallsWrong)

/-- 'culvertlaw02.SumChanges': WHATEVER THE INPUT: true; the input reads as it did. -/
def sumChangesSpec : ChangeSpec := { name := "sumChanges", fn := fun _ => fun
  | [d1, d2, d3, d4] => { results := [.lit (.bool true)], args := [d1, d2, d3, d4] }
  | _ => none }
def sumChangesRow : OpenClaim := { program := "ytlobceldlegnlaa", sum := "1e093a84aa24c06b60c98c27ff7ea1a0b09ea7bfb00501098b60d4e33f9ca450", func := "culvert/culvertlaw02.SumChanges", spec := "sumChanges", unfollowed := true, recurses := true, apart := false }
def SumChangesSaid : Prop := sumChangesRow.holds Try.pinned (OpenSpec.ofChange sumChangesSpec)

/-- ITS FALSE NEIGHBOUR: 'it returns false'. Refute it at one input. -/
def sumChangesWrong : ChangeSpec := { name := "sumChanges", fn := fun _ => fun
  | [d1, d2, d3, d4] => { results := [.lit (.bool false)], args := [d1, d2, d3, d4] }
  | _ => none }
def SumChangesWrongFalsely : Prop := sumChangesRow.holds Try.pinned (OpenSpec.ofChange sumChangesWrong)

/-- 'culvertlaw02.SumOrder': WHATEVER THE INPUT: true; the input reads as it did. -/
def sumOrderSpec : ChangeSpec := { name := "sumOrder", fn := fun _ => fun
  | [d1, d2, d3] => { results := [.lit (.bool true)], args := [d1, d2, d3] }
  | _ => none }
def sumOrderRow : OpenClaim := { program := "ytlobceldlegnlaa", sum := "1e093a84aa24c06b60c98c27ff7ea1a0b09ea7bfb00501098b60d4e33f9ca450", func := "culvert/culvertlaw02.SumOrder", spec := "sumOrder", unfollowed := true, recurses := true, apart := false }
def SumOrderSaid : Prop := sumOrderRow.holds Try.pinned (OpenSpec.ofChange sumOrderSpec)

/-- ITS FALSE NEIGHBOUR: 'it returns false'. Refute it at one input. -/
def sumOrderWrong : ChangeSpec := { name := "sumOrder", fn := fun _ => fun
  | [d1, d2, d3] => { results := [.lit (.bool false)], args := [d1, d2, d3] }
  | _ => none }
def SumOrderWrongFalsely : Prop := sumOrderRow.holds Try.pinned (OpenSpec.ofChange sumOrderWrong)

/-- 'culvertlaw02.SumChain': WHATEVER THE INPUT: true; the input reads as it did. -/
def sumChainSpec : ChangeSpec := { name := "sumChain", fn := fun _ => fun
  | [d1, d2, d3, d4, d5] => { results := [.lit (.bool true)], args := [d1, d2, d3, d4, d5] }
  | _ => none }
def sumChainRow : OpenClaim := { program := "ytlobceldlegnlaa", sum := "1e093a84aa24c06b60c98c27ff7ea1a0b09ea7bfb00501098b60d4e33f9ca450", func := "culvert/culvertlaw02.SumChain", spec := "sumChain", unfollowed := true, recurses := true, apart := false }
def SumChainSaid : Prop := sumChainRow.holds Try.pinned (OpenSpec.ofChange sumChainSpec)

/-- ITS FALSE NEIGHBOUR: 'it returns false'. Refute it at one input. -/
def sumChainWrong : ChangeSpec := { name := "sumChain", fn := fun _ => fun
  | [d1, d2, d3, d4, d5] => { results := [.lit (.bool false)], args := [d1, d2, d3, d4, d5] }
  | _ => none }
def SumChainWrongFalsely : Prop := sumChainRow.holds Try.pinned (OpenSpec.ofChange sumChainWrong)

/-- 'culvertlaw02.SumBack': WHATEVER THE INPUT: true; the input reads as it did. -/
def sumBackSpec : ChangeSpec := { name := "sumBack", fn := fun _ => fun
  | [d1, d2, d3] => { results := [.lit (.bool true)], args := [d1, d2, d3] }
  | _ => none }
def sumBackRow : OpenClaim := { program := "ytlobceldlegnlaa", sum := "1e093a84aa24c06b60c98c27ff7ea1a0b09ea7bfb00501098b60d4e33f9ca450", func := "culvert/culvertlaw02.SumBack", spec := "sumBack", unfollowed := true, recurses := true, apart := false }
def SumBackSaid : Prop := sumBackRow.holds Try.pinned (OpenSpec.ofChange sumBackSpec)

/-- ITS FALSE NEIGHBOUR: 'it returns false'. Refute it at one input. -/
def sumBackWrong : ChangeSpec := { name := "sumBack", fn := fun _ => fun
  | [d1, d2, d3] => { results := [.lit (.bool false)], args := [d1, d2, d3] }
  | _ => none }
def SumBackWrongFalsely : Prop := sumBackRow.holds Try.pinned (OpenSpec.ofChange sumBackWrong)

/-- 'culvertlaw02.SumKnown': WHATEVER THE INPUT: true; the input reads as it did. -/
def sumKnownSpec : ChangeSpec := { name := "sumKnown", fn := fun _ => fun
  | [] => { results := [.lit (.bool true)], args := [] }
  | _ => none }
def sumKnownRow : OpenClaim := { program := "ytlobceldlegnlaa", sum := "1e093a84aa24c06b60c98c27ff7ea1a0b09ea7bfb00501098b60d4e33f9ca450", func := "culvert/culvertlaw02.SumKnown", spec := "sumKnown", unfollowed := true, recurses := true, apart := false }
def SumKnownSaid : Prop := sumKnownRow.holds Try.pinned (OpenSpec.ofChange sumKnownSpec)

/-- ITS FALSE NEIGHBOUR: 'it returns false'. Refute it at one input. -/
def sumKnownWrong : ChangeSpec := { name := "sumKnown", fn := fun _ => fun
  | [] => { results := [.lit (.bool false)], args := [] }
  | _ => none }
def SumKnownWrongFalsely : Prop := sumKnownRow.holds Try.pinned (OpenSpec.ofChange sumKnownWrong)

/-- 'culvertlaw02.SumWords': WHATEVER THE INPUT: true; the input reads as it did. -/
def sumWordsSpec : ChangeSpec := { name := "sumWords", fn := fun _ => fun
  | [d1, d2, d3, d4, d5] => { results := [.lit (.bool true)], args := [d1, d2, d3, d4, d5] }
  | _ => none }
def sumWordsRow : OpenClaim := { program := "ytlobceldlegnlaa", sum := "1e093a84aa24c06b60c98c27ff7ea1a0b09ea7bfb00501098b60d4e33f9ca450", func := "culvert/culvertlaw02.SumWords", spec := "sumWords", unfollowed := true, recurses := true, apart := false }
def SumWordsSaid : Prop := sumWordsRow.holds Try.pinned (OpenSpec.ofChange sumWordsSpec)

/-- ITS FALSE NEIGHBOUR: 'it returns false'. Refute it at one input. -/
def sumWordsWrong : ChangeSpec := { name := "sumWords", fn := fun _ => fun
  | [d1, d2, d3, d4, d5] => { results := [.lit (.bool false)], args := [d1, d2, d3, d4, d5] }
  | _ => none }
def SumWordsWrongFalsely : Prop := sumWordsRow.holds Try.pinned (OpenSpec.ofChange sumWordsWrong)

/- THE SECOND FORM. 'bulk': how many values and letters a reading holds, each counted each time it is reached (what is shared counts as often as it is met; a slice's spare places count too). A statement '..UptoSaid' is the law's where the arguments, and the package variables that the reading takes, are together of bulk at most 1048576: NARROWER than '..Said'. Prove '..Said' where nothing that the law and all that it calls make is longer than what came in: it says more and counts as full. Else prove '..UptoSaid'. A law counts once. -/
mutual
def uptoBulk {H : Type} : DataW H → Nat
  | .lit (.string bytes) => bytes.length + 1
  | .lit _ => 1
  | .nil => 1
  | .ptr d => uptoBulk d + 1
  | .slice elems spare => uptoBulkAll elems + uptoBulkAll spare + 1
  | .agg parts => uptoBulkAll parts + 1
  | .iface _ d => uptoBulk d + 1
  | .map entries => uptoBulkEntries entries + 1
  | .held _ => 1
def uptoBulkAll {H : Type} : List (DataW H) → Nat
  | [] => 0
  | d :: r => uptoBulk d + uptoBulkAll r
def uptoBulkEntries {H : Type} : List (Lit × DataW H) → Nat
  | [] => 0
  | x :: r => uptoBulkEntry x + uptoBulkEntries r
def uptoBulkEntry {H : Type} : Lit × DataW H → Nat
  | (.string bytes, d) => bytes.length + uptoBulk d + 1
  | (_, d) => uptoBulk d + 1
 end
def uptoSmall : (H : Type) → List (DataW H) → Bool := fun _ ds => decide (uptoBulkAll ds ≤ 1048576)
def OpenSpec.upto (s : _root_.Go.ChangeSpec) : _root_.Go.OpenSpec := { _root_.Go.OpenSpec.ofChange s with cond := some uptoSmall }

/-- 'culvertlaw02.SumCalls', WHERE WHAT IT READS IS OF BULK AT MOST 1048576: true; the input reads as it did. -/
def sumCallsUptoRow : OpenClaim := { program := "ytlobceldlegnlaa", sum := "1e093a84aa24c06b60c98c27ff7ea1a0b09ea7bfb00501098b60d4e33f9ca450", func := "culvert/culvertlaw02.SumCalls", spec := "sumCalls", unfollowed := true, recurses := true, apart := false, narrowed := true }
def SumCallsUptoSaid : Prop := sumCallsUptoRow.holds Try.pinned (OpenSpec.upto sumCallsSpec)

/-- 'culvertlaw02.SumChanges', WHERE WHAT IT READS IS OF BULK AT MOST 1048576: true; the input reads as it did. -/
def sumChangesUptoRow : OpenClaim := { program := "ytlobceldlegnlaa", sum := "1e093a84aa24c06b60c98c27ff7ea1a0b09ea7bfb00501098b60d4e33f9ca450", func := "culvert/culvertlaw02.SumChanges", spec := "sumChanges", unfollowed := true, recurses := true, apart := false, narrowed := true }
def SumChangesUptoSaid : Prop := sumChangesUptoRow.holds Try.pinned (OpenSpec.upto sumChangesSpec)

/-- 'culvertlaw02.SumOrder', WHERE WHAT IT READS IS OF BULK AT MOST 1048576: true; the input reads as it did. -/
def sumOrderUptoRow : OpenClaim := { program := "ytlobceldlegnlaa", sum := "1e093a84aa24c06b60c98c27ff7ea1a0b09ea7bfb00501098b60d4e33f9ca450", func := "culvert/culvertlaw02.SumOrder", spec := "sumOrder", unfollowed := true, recurses := true, apart := false, narrowed := true }
def SumOrderUptoSaid : Prop := sumOrderUptoRow.holds Try.pinned (OpenSpec.upto sumOrderSpec)

/-- 'culvertlaw02.SumChain', WHERE WHAT IT READS IS OF BULK AT MOST 1048576: true; the input reads as it did. -/
def sumChainUptoRow : OpenClaim := { program := "ytlobceldlegnlaa", sum := "1e093a84aa24c06b60c98c27ff7ea1a0b09ea7bfb00501098b60d4e33f9ca450", func := "culvert/culvertlaw02.SumChain", spec := "sumChain", unfollowed := true, recurses := true, apart := false, narrowed := true }
def SumChainUptoSaid : Prop := sumChainUptoRow.holds Try.pinned (OpenSpec.upto sumChainSpec)

/-- 'culvertlaw02.SumBack', WHERE WHAT IT READS IS OF BULK AT MOST 1048576: true; the input reads as it did. -/
def sumBackUptoRow : OpenClaim := { program := "ytlobceldlegnlaa", sum := "1e093a84aa24c06b60c98c27ff7ea1a0b09ea7bfb00501098b60d4e33f9ca450", func := "culvert/culvertlaw02.SumBack", spec := "sumBack", unfollowed := true, recurses := true, apart := false, narrowed := true }
def SumBackUptoSaid : Prop := sumBackUptoRow.holds Try.pinned (OpenSpec.upto sumBackSpec)

/-- 'culvertlaw02.SumKnown', WHERE WHAT IT READS IS OF BULK AT MOST 1048576: true; the input reads as it did. -/
def sumKnownUptoRow : OpenClaim := { program := "ytlobceldlegnlaa", sum := "1e093a84aa24c06b60c98c27ff7ea1a0b09ea7bfb00501098b60d4e33f9ca450", func := "culvert/culvertlaw02.SumKnown", spec := "sumKnown", unfollowed := true, recurses := true, apart := false, narrowed := true }
def SumKnownUptoSaid : Prop := sumKnownUptoRow.holds Try.pinned (OpenSpec.upto sumKnownSpec)

/-- 'culvertlaw02.SumWords', WHERE WHAT IT READS IS OF BULK AT MOST 1048576: true; the input reads as it did. -/
def sumWordsUptoRow : OpenClaim := { program := "ytlobceldlegnlaa", sum := "1e093a84aa24c06b60c98c27ff7ea1a0b09ea7bfb00501098b60d4e33f9ca450", func := "culvert/culvertlaw02.SumWords", spec := "sumWords", unfollowed := true, recurses := true, apart := false, narrowed := true }
def SumWordsUptoSaid : Prop := sumWordsUptoRow.holds Try.pinned (OpenSpec.upto sumWordsSpec)

end Rows
end Go.Proofs.Ytlobceldlegnlaa

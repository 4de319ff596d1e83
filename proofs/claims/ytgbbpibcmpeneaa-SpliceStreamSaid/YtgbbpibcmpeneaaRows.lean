/-
  No cell of these rows narrows 'for every input' (looked for: loops, veiled, ifaces, maps, wideKeys, modest, calm, conditions, laid).
  DERIVED. THE GIVEN ROWS OF THIS SEAT. 5 by the template 'for every input the law returns true; each argument reads behind the call as it read before'; 0 by the template 'total and deterministic' (their statements: YtgbbpibcmpeneaaTotals.lean).
  GIVEN WITH THE SEED: the statements are not yours to turn. If you find one false, say at which input.
  Laid BY PROGRAM, IN A SANDBOX (cutbox-rows.mjs): the forced cells as the released guide's own fill.sh prints them over the translation 3379ad6df272b122… (all of the seat's roots in one cut). By AI agents, Wed Nov 11 2026. No macro, syntax, notation, axiom, sorry.
-/
import Derived.Test.YtgbbpibcmpeneaaChecked
import GoSem.Claim
import GoSem.ClaimJoined
import GoSem.ClaimMapViews
import Derived.JoinedTies
import Derived.KernelRfl
namespace Go.Proofs.Ytgbbpibcmpeneaa
/- THE CELL 'sum', in the pinned program and in every row, IS THE sha256 OF THE DUMP (.gsa) THAT YtgbbpibcmpeneaaProg.lean LOADS. Nothing in Lean hashes anything: it is a label: what it is worth is what the hold of that sum in a sandbox is worth. -/
noncomputable def Try.pinned : Pinned := { name := "ytgbbpibcmpeneaa", sum := "3379ad6df272b122f5d11fd61e1a9eff7188807044ac84e638e7d625d38626b8", checked := Try.checked }
namespace Rows
def none {H : Type} : Left H := { results := [], args := [] }

/-- 'culvertlaw26.SpliceStream': WHATEVER THE INPUT: true; the input reads as it did. -/
def spliceStreamSpec : ChangeSpec := { name := "spliceStream", fn := fun _ => fun
  | [d1, d2, d3] => { results := [.lit (.bool true)], args := [d1, d2, d3] }
  | _ => none }
def spliceStreamRow : OpenClaim := { program := "ytgbbpibcmpeneaa", sum := "3379ad6df272b122f5d11fd61e1a9eff7188807044ac84e638e7d625d38626b8", func := "culvert/culvertlaw26.SpliceStream", spec := "spliceStream", unfollowed := true, recurses := true, apart := false }
def SpliceStreamSaid : Prop := spliceStreamRow.holds Try.pinned (OpenSpec.ofChange spliceStreamSpec)

/-- ITS FALSE NEIGHBOUR: 'it returns false'. Refute it at one input. -/
def spliceStreamWrong : ChangeSpec := { name := "spliceStream", fn := fun _ => fun
  | [d1, d2, d3] => { results := [.lit (.bool false)], args := [d1, d2, d3] }
  | _ => none }
def SpliceStreamWrongFalsely : Prop := spliceStreamRow.holds Try.pinned (OpenSpec.ofChange spliceStreamWrong)

/-- 'culvertlaw26.SpliceBegins': WHATEVER THE INPUT: true; the input reads as it did. -/
def spliceBeginsSpec : ChangeSpec := { name := "spliceBegins", fn := fun _ => fun
  | [d] => { results := [.lit (.bool true)], args := [d] }
  | _ => none }
def spliceBeginsRow : OpenClaim := { program := "ytgbbpibcmpeneaa", sum := "3379ad6df272b122f5d11fd61e1a9eff7188807044ac84e638e7d625d38626b8", func := "culvert/culvertlaw26.SpliceBegins", spec := "spliceBegins", unfollowed := true, recurses := true, apart := false }
def SpliceBeginsSaid : Prop := spliceBeginsRow.holds Try.pinned (OpenSpec.ofChange spliceBeginsSpec)

/-- ITS FALSE NEIGHBOUR: 'it returns false'. Refute it at one input. -/
def spliceBeginsWrong : ChangeSpec := { name := "spliceBegins", fn := fun _ => fun
  | [d] => { results := [.lit (.bool false)], args := [d] }
  | _ => none }
def SpliceBeginsWrongFalsely : Prop := spliceBeginsRow.holds Try.pinned (OpenSpec.ofChange spliceBeginsWrong)

/-- 'culvertlaw26.SpliceResets': WHATEVER THE INPUT: true; the input reads as it did. -/
def spliceResetsSpec : ChangeSpec := { name := "spliceResets", fn := fun _ => fun
  | [d1, d2, d3] => { results := [.lit (.bool true)], args := [d1, d2, d3] }
  | _ => none }
def spliceResetsRow : OpenClaim := { program := "ytgbbpibcmpeneaa", sum := "3379ad6df272b122f5d11fd61e1a9eff7188807044ac84e638e7d625d38626b8", func := "culvert/culvertlaw26.SpliceResets", spec := "spliceResets", unfollowed := true, recurses := true, apart := false }
def SpliceResetsSaid : Prop := spliceResetsRow.holds Try.pinned (OpenSpec.ofChange spliceResetsSpec)

/-- ITS FALSE NEIGHBOUR: 'it returns false'. Refute it at one input. -/
def spliceResetsWrong : ChangeSpec := { name := "spliceResets", fn := fun _ => fun
  | [d1, d2, d3] => { results := [.lit (.bool false)], args := [d1, d2, d3] }
  | _ => none }
def SpliceResetsWrongFalsely : Prop := spliceResetsRow.holds Try.pinned (OpenSpec.ofChange spliceResetsWrong)

/-- 'culvertlaw26.SpliceMirror': WHATEVER THE INPUT: true; the input reads as it did. -/
def spliceMirrorSpec : ChangeSpec := { name := "spliceMirror", fn := fun _ => fun
  | [d1, d2] => { results := [.lit (.bool true)], args := [d1, d2] }
  | _ => none }
def spliceMirrorRow : OpenClaim := { program := "ytgbbpibcmpeneaa", sum := "3379ad6df272b122f5d11fd61e1a9eff7188807044ac84e638e7d625d38626b8", func := "culvert/culvertlaw26.SpliceMirror", spec := "spliceMirror", unfollowed := true, recurses := true, apart := false }
def SpliceMirrorSaid : Prop := spliceMirrorRow.holds Try.pinned (OpenSpec.ofChange spliceMirrorSpec)

/-- ITS FALSE NEIGHBOUR: 'it returns false'. Refute it at one input. -/
def spliceMirrorWrong : ChangeSpec := { name := "spliceMirror", fn := fun _ => fun
  | [d1, d2] => { results := [.lit (.bool false)], args := [d1, d2] }
  | _ => none }
def SpliceMirrorWrongFalsely : Prop := spliceMirrorRow.holds Try.pinned (OpenSpec.ofChange spliceMirrorWrong)

/-- 'culvertlaw26.SpliceKnown': WHATEVER THE INPUT: true; the input reads as it did. -/
def spliceKnownSpec : ChangeSpec := { name := "spliceKnown", fn := fun _ => fun
  | [] => { results := [.lit (.bool true)], args := [] }
  | _ => none }
def spliceKnownRow : OpenClaim := { program := "ytgbbpibcmpeneaa", sum := "3379ad6df272b122f5d11fd61e1a9eff7188807044ac84e638e7d625d38626b8", func := "culvert/culvertlaw26.SpliceKnown", spec := "spliceKnown", unfollowed := true, recurses := true, apart := false }
def SpliceKnownSaid : Prop := spliceKnownRow.holds Try.pinned (OpenSpec.ofChange spliceKnownSpec)

/-- ITS FALSE NEIGHBOUR: 'it returns false'. Refute it at one input. -/
def spliceKnownWrong : ChangeSpec := { name := "spliceKnown", fn := fun _ => fun
  | [] => { results := [.lit (.bool false)], args := [] }
  | _ => none }
def SpliceKnownWrongFalsely : Prop := spliceKnownRow.holds Try.pinned (OpenSpec.ofChange spliceKnownWrong)

/- THE SECOND FORM. 'bulk': how many values and letters a reading holds, each counted each time it is reached (what is shared counts as often as it is met; a slice's spare places count too). A statement '..UptoSaid' is the law's where the arguments, and the package variables that the reading takes, are together of bulk at most 1048576: NARROWER than '..Said'. Prove '..Said' where nothing that the law and all that it calls make is longer than what came in: it says more and counts as full. Else prove '..UptoSaid'. A law counts once. -/
mutual
def uptoBulk {H : Type} : DataW H → Nat
  | .lit (.string bytes) => bytes.length + 1
  | .lit _ => 1
  | .nil => 1
  | .ptr d => uptoBulk d + 1
  | .slice elems spare => uptoBulkAll elems + uptoBulkAll spare + 1
  | .agg parts => uptoBulkAll parts + 1
  | .iface _ d => uptoBulk d + 1
  | .map entries => uptoBulkEntries entries + 1
  | .held _ => 1
def uptoBulkAll {H : Type} : List (DataW H) → Nat
  | [] => 0
  | d :: r => uptoBulk d + uptoBulkAll r
def uptoBulkEntries {H : Type} : List (Lit × DataW H) → Nat
  | [] => 0
  | x :: r => uptoBulkEntry x + uptoBulkEntries r
def uptoBulkEntry {H : Type} : Lit × DataW H → Nat
  | (.string bytes, d) => bytes.length + uptoBulk d + 1
  | (_, d) => uptoBulk d + 1
 end
def uptoSmall : (H : Type) → List (DataW H) → Bool := fun _ ds => decide (uptoBulkAll ds ≤ 1048576)
def OpenSpec.upto (s : _root_.Go.ChangeSpec) : _root_.Go.OpenSpec := { _root_.Go.OpenSpec.ofChange s with cond := some uptoSmall }

/-- 'culvertlaw26.SpliceStream', WHERE WHAT IT READS IS OF BULK AT MOST 1048576: true; the input reads as it did. -/
def spliceStreamUptoRow : OpenClaim := { program := "ytgbbpibcmpeneaa", sum := "3379ad6df272b122f5d11fd61e1a9eff7188807044ac84e638e7d625d38626b8", func := "culvert/culvertlaw26.SpliceStream", spec := "spliceStream", unfollowed := true, recurses := true, apart := false, narrowed := true }
def SpliceStreamUptoSaid : Prop := spliceStreamUptoRow.holds Try.pinned (OpenSpec.upto spliceStreamSpec)

/-- 'culvertlaw26.SpliceBegins', WHERE WHAT IT READS IS OF BULK AT MOST 1048576: true; the input reads as it did. -/
def spliceBeginsUptoRow : OpenClaim := { program := "ytgbbpibcmpeneaa", sum := "3379ad6df272b122f5d11fd61e1a9eff7188807044ac84e638e7d625d38626b8", func := "culvert/culvertlaw26.SpliceBegins", spec := "spliceBegins", unfollowed := true, recurses := true, apart := false, narrowed := true }
def SpliceBeginsUptoSaid : Prop := spliceBeginsUptoRow.holds Try.pinned (OpenSpec.upto spliceBeginsSpec)

/-- 'culvertlaw26.SpliceResets', WHERE WHAT IT READS IS OF BULK AT MOST 1048576: true; the input reads as it did. -/
def spliceResetsUptoRow : OpenClaim := { program := "ytgbbpibcmpeneaa", sum := "3379ad6df272b122f5d11fd61e1a9eff7188807044ac84e638e7d625d38626b8", func := "culvert/culvertlaw26.SpliceResets", spec := "spliceResets", unfollowed := true, recurses := true, apart := false, narrowed := true }
def SpliceResetsUptoSaid : Prop := spliceResetsUptoRow.holds Try.pinned (OpenSpec.upto spliceResetsSpec)

/-- 'culvertlaw26.SpliceMirror', WHERE WHAT IT READS IS OF BULK AT MOST 1048576: true; the input reads as it did. -/
def spliceMirrorUptoRow : OpenClaim := { program := "ytgbbpibcmpeneaa", sum := "3379ad6df272b122f5d11fd61e1a9eff7188807044ac84e638e7d625d38626b8", func := "culvert/culvertlaw26.SpliceMirror", spec := "spliceMirror", unfollowed := true, recurses := true, apart := false, narrowed := true }
def SpliceMirrorUptoSaid : Prop := spliceMirrorUptoRow.holds Try.pinned (OpenSpec.upto spliceMirrorSpec)

/-- 'culvertlaw26.SpliceKnown', WHERE WHAT IT READS IS OF BULK AT MOST 1048576: true; the input reads as it did. -/
def spliceKnownUptoRow : OpenClaim := { program := "ytgbbpibcmpeneaa", sum := "3379ad6df272b122f5d11fd61e1a9eff7188807044ac84e638e7d625d38626b8", func := "culvert/culvertlaw26.SpliceKnown", spec := "spliceKnown", unfollowed := true, recurses := true, apart := false, narrowed := true }
def SpliceKnownUptoSaid : Prop := spliceKnownUptoRow.holds Try.pinned (OpenSpec.upto spliceKnownSpec)

end Rows
end Go.Proofs.Ytgbbpibcmpeneaa

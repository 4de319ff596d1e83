/-
  No cell of these rows narrows 'for every input' (looked for: loops, veiled, ifaces, maps, wideKeys, modest, calm, conditions, laid).
  DERIVED. THE GIVEN ROWS OF THIS SEAT. 6 by the template 'for every input the law returns true; each argument reads behind the call as it read before'; 0 by the template 'total and deterministic' (their statements: YthhkdjoonnofdaaTotals.lean).
  GIVEN WITH THE SEED: the statements are not yours to turn. If you find one false, say at which input.
  Laid BY PROGRAM, IN A SANDBOX (cutbox-rows.mjs): the forced cells as the released guide's own fill.sh prints them over the translation ecb6f825402262f7… (all of the seat's roots in one cut). By AI agents, Wed Nov 11 2026. No macro, syntax, notation, axiom, sorry.
-/
import Derived.Test.YthhkdjoonnofdaaChecked
import GoSem.Claim
import GoSem.ClaimJoined
import GoSem.ClaimMapViews
import Derived.JoinedTies
import Derived.KernelRfl
namespace Go.Proofs.Ythhkdjoonnofdaa
/- THE CELL 'sum', in the pinned program and in every row, IS THE sha256 OF THE DUMP (.gsa) THAT YthhkdjoonnofdaaProg.lean LOADS. Nothing in Lean hashes anything: it is a label: what it is worth is what the hold of that sum in a sandbox is worth. -/
noncomputable def Try.pinned : Pinned := { name := "ythhkdjoonnofdaa", sum := "ecb6f825402262f75d8e0a1457957ebe3b11a646dde0d71389dfbf005ebb1d46", checked := Try.checked }
namespace Rows
def none {H : Type} : Left H := { results := [], args := [] }

/-- 'culvertlaw07.UdpParses': WHATEVER THE INPUT: true; the input reads as it did. -/
def udpParsesSpec : ChangeSpec := { name := "udpParses", fn := fun _ => fun
  | [d1, d2] => { results := [.lit (.bool true)], args := [d1, d2] }
  | _ => none }
def udpParsesRow : OpenClaim := { program := "ythhkdjoonnofdaa", sum := "ecb6f825402262f75d8e0a1457957ebe3b11a646dde0d71389dfbf005ebb1d46", func := "culvert/culvertlaw07.UdpParses", spec := "udpParses", unfollowed := true, recurses := true, apart := false }
def UdpParsesSaid : Prop := udpParsesRow.holds Try.pinned (OpenSpec.ofChange udpParsesSpec)

/-- ITS FALSE NEIGHBOUR: 'it returns false'. Refute it at one input. -/
def udpParsesWrong : ChangeSpec := { name := "udpParses", fn := fun _ => fun
  | [d1, d2] => { results := [.lit (.bool false)], args := [d1, d2] }
  | _ => none }
def UdpParsesWrongFalsely : Prop := udpParsesRow.holds Try.pinned (OpenSpec.ofChange udpParsesWrong)

/-- 'culvertlaw07.UdpCut': WHATEVER THE INPUT: true; the input reads as it did. -/
def udpCutSpec : ChangeSpec := { name := "udpCut", fn := fun _ => fun
  | [d1, d2, d3] => { results := [.lit (.bool true)], args := [d1, d2, d3] }
  | _ => none }
def udpCutRow : OpenClaim := { program := "ythhkdjoonnofdaa", sum := "ecb6f825402262f75d8e0a1457957ebe3b11a646dde0d71389dfbf005ebb1d46", func := "culvert/culvertlaw07.UdpCut", spec := "udpCut", unfollowed := true, recurses := true, apart := false }
def UdpCutSaid : Prop := udpCutRow.holds Try.pinned (OpenSpec.ofChange udpCutSpec)

/-- ITS FALSE NEIGHBOUR: 'it returns false'. Refute it at one input. -/
def udpCutWrong : ChangeSpec := { name := "udpCut", fn := fun _ => fun
  | [d1, d2, d3] => { results := [.lit (.bool false)], args := [d1, d2, d3] }
  | _ => none }
def UdpCutWrongFalsely : Prop := udpCutRow.holds Try.pinned (OpenSpec.ofChange udpCutWrong)

/-- 'culvertlaw07.UdpKnown': WHATEVER THE INPUT: true; the input reads as it did. -/
def udpKnownSpec : ChangeSpec := { name := "udpKnown", fn := fun _ => fun
  | [] => { results := [.lit (.bool true)], args := [] }
  | _ => none }
def udpKnownRow : OpenClaim := { program := "ythhkdjoonnofdaa", sum := "ecb6f825402262f75d8e0a1457957ebe3b11a646dde0d71389dfbf005ebb1d46", func := "culvert/culvertlaw07.UdpKnown", spec := "udpKnown", unfollowed := true, recurses := true, apart := false }
def UdpKnownSaid : Prop := udpKnownRow.holds Try.pinned (OpenSpec.ofChange udpKnownSpec)

/-- ITS FALSE NEIGHBOUR: 'it returns false'. Refute it at one input. -/
def udpKnownWrong : ChangeSpec := { name := "udpKnown", fn := fun _ => fun
  | [] => { results := [.lit (.bool false)], args := [] }
  | _ => none }
def UdpKnownWrongFalsely : Prop := udpKnownRow.holds Try.pinned (OpenSpec.ofChange udpKnownWrong)

/-- 'culvertlaw07.UdpPuts': WHATEVER THE INPUT: true; the input reads as it did. -/
def udpPutsSpec : ChangeSpec := { name := "udpPuts", fn := fun _ => fun
  | [d1, d2, d3] => { results := [.lit (.bool true)], args := [d1, d2, d3] }
  | _ => none }
def udpPutsRow : OpenClaim := { program := "ythhkdjoonnofdaa", sum := "ecb6f825402262f75d8e0a1457957ebe3b11a646dde0d71389dfbf005ebb1d46", func := "culvert/culvertlaw07.UdpPuts", spec := "udpPuts", unfollowed := true, recurses := true, apart := false }
def UdpPutsSaid : Prop := udpPutsRow.holds Try.pinned (OpenSpec.ofChange udpPutsSpec)

/-- ITS FALSE NEIGHBOUR: 'it returns false'. Refute it at one input. -/
def udpPutsWrong : ChangeSpec := { name := "udpPuts", fn := fun _ => fun
  | [d1, d2, d3] => { results := [.lit (.bool false)], args := [d1, d2, d3] }
  | _ => none }
def UdpPutsWrongFalsely : Prop := udpPutsRow.holds Try.pinned (OpenSpec.ofChange udpPutsWrong)

/-- 'culvertlaw07.UdpBack': WHATEVER THE INPUT: true; the input reads as it did. -/
def udpBackSpec : ChangeSpec := { name := "udpBack", fn := fun _ => fun
  | [d1, d2, d3] => { results := [.lit (.bool true)], args := [d1, d2, d3] }
  | _ => none }
def udpBackRow : OpenClaim := { program := "ythhkdjoonnofdaa", sum := "ecb6f825402262f75d8e0a1457957ebe3b11a646dde0d71389dfbf005ebb1d46", func := "culvert/culvertlaw07.UdpBack", spec := "udpBack", unfollowed := true, recurses := true, apart := false }
def UdpBackSaid : Prop := udpBackRow.holds Try.pinned (OpenSpec.ofChange udpBackSpec)

/-- ITS FALSE NEIGHBOUR: 'it returns false'. Refute it at one input. -/
def udpBackWrong : ChangeSpec := { name := "udpBack", fn := fun _ => fun
  | [d1, d2, d3] => { results := [.lit (.bool false)], args := [d1, d2, d3] }
  | _ => none }
def UdpBackWrongFalsely : Prop := udpBackRow.holds Try.pinned (OpenSpec.ofChange udpBackWrong)

/-- 'culvertlaw07.UdpEnds': WHATEVER THE INPUT: true; the input reads as it did. -/
def udpEndsSpec : ChangeSpec := { name := "udpEnds", fn := fun _ => fun
  | [d1, d2, d3] => { results := [.lit (.bool true)], args := [d1, d2, d3] }
  | _ => none }
def udpEndsRow : OpenClaim := { program := "ythhkdjoonnofdaa", sum := "ecb6f825402262f75d8e0a1457957ebe3b11a646dde0d71389dfbf005ebb1d46", func := "culvert/culvertlaw07.UdpEnds", spec := "udpEnds", unfollowed := true, recurses := true, apart := false }
def UdpEndsSaid : Prop := udpEndsRow.holds Try.pinned (OpenSpec.ofChange udpEndsSpec)

/-- ITS FALSE NEIGHBOUR: 'it returns false'. Refute it at one input. -/
def udpEndsWrong : ChangeSpec := { name := "udpEnds", fn := fun _ => fun
  | [d1, d2, d3] => { results := [.lit (.bool false)], args := [d1, d2, d3] }
  | _ => none }
def UdpEndsWrongFalsely : Prop := udpEndsRow.holds Try.pinned (OpenSpec.ofChange udpEndsWrong)

/- THE SECOND FORM. 'bulk': how many values and letters a reading holds, each counted each time it is reached (what is shared counts as often as it is met; a slice's spare places count too). A statement '..UptoSaid' is the law's where the arguments, and the package variables that the reading takes, are together of bulk at most 1048576: NARROWER than '..Said'. Prove '..Said' where nothing that the law and all that it calls make is longer than what came in: it says more and counts as full. Else prove '..UptoSaid'. A law counts once. -/
mutual
def uptoBulk {H : Type} : DataW H → Nat
  | .lit (.string bytes) => bytes.length + 1
  | .lit _ => 1
  | .nil => 1
  | .ptr d => uptoBulk d + 1
  | .slice elems spare => uptoBulkAll elems + uptoBulkAll spare + 1
  | .agg parts => uptoBulkAll parts + 1
  | .iface _ d => uptoBulk d + 1
  | .map entries => uptoBulkEntries entries + 1
  | .held _ => 1
def uptoBulkAll {H : Type} : List (DataW H) → Nat
  | [] => 0
  | d :: r => uptoBulk d + uptoBulkAll r
def uptoBulkEntries {H : Type} : List (Lit × DataW H) → Nat
  | [] => 0
  | x :: r => uptoBulkEntry x + uptoBulkEntries r
def uptoBulkEntry {H : Type} : Lit × DataW H → Nat
  | (.string bytes, d) => bytes.length + uptoBulk d + 1
  | (_, d) => uptoBulk d + 1
 end
def uptoSmall : (H : Type) → List (DataW H) → Bool := fun _ ds => decide (uptoBulkAll ds ≤ 1048576)
def OpenSpec.upto (s : _root_.Go.ChangeSpec) : _root_.Go.OpenSpec := { _root_.Go.OpenSpec.ofChange s with cond := some uptoSmall }

/-- 'culvertlaw07.UdpParses', WHERE WHAT IT READS IS OF BULK AT MOST 1048576: true; the input reads as it did. -/
def udpParsesUptoRow : OpenClaim := { program := "ythhkdjoonnofdaa", sum := "ecb6f825402262f75d8e0a1457957ebe3b11a646dde0d71389dfbf005ebb1d46", func := "culvert/culvertlaw07.UdpParses", spec := "udpParses", unfollowed := true, recurses := true, apart := false, narrowed := true }
def UdpParsesUptoSaid : Prop := udpParsesUptoRow.holds Try.pinned (OpenSpec.upto udpParsesSpec)

/-- 'culvertlaw07.UdpCut', WHERE WHAT IT READS IS OF BULK AT MOST 1048576: true; the input reads as it did. -/
def udpCutUptoRow : OpenClaim := { program := "ythhkdjoonnofdaa", sum := "ecb6f825402262f75d8e0a1457957ebe3b11a646dde0d71389dfbf005ebb1d46", func := "culvert/culvertlaw07.UdpCut", spec := "udpCut", unfollowed := true, recurses := true, apart := false, narrowed := true }
def UdpCutUptoSaid : Prop := udpCutUptoRow.holds Try.pinned (OpenSpec.upto udpCutSpec)

/-- 'culvertlaw07.UdpKnown', WHERE WHAT IT READS IS OF BULK AT MOST 1048576: true; the input reads as it did. -/
def udpKnownUptoRow : OpenClaim := { program := "ythhkdjoonnofdaa", sum := "ecb6f825402262f75d8e0a1457957ebe3b11a646dde0d71389dfbf005ebb1d46", func := "culvert/culvertlaw07.UdpKnown", spec := "udpKnown", unfollowed := true, recurses := true, apart := false, narrowed := true }
def UdpKnownUptoSaid : Prop := udpKnownUptoRow.holds Try.pinned (OpenSpec.upto udpKnownSpec)

/-- 'culvertlaw07.UdpPuts', WHERE WHAT IT READS IS OF BULK AT MOST 1048576: true; the input reads as it did. -/
def udpPutsUptoRow : OpenClaim := { program := "ythhkdjoonnofdaa", sum := "ecb6f825402262f75d8e0a1457957ebe3b11a646dde0d71389dfbf005ebb1d46", func := "culvert/culvertlaw07.UdpPuts", spec := "udpPuts", unfollowed := true, recurses := true, apart := false, narrowed := true }
def UdpPutsUptoSaid : Prop := udpPutsUptoRow.holds Try.pinned (OpenSpec.upto udpPutsSpec)

/-- 'culvertlaw07.UdpBack', WHERE WHAT IT READS IS OF BULK AT MOST 1048576: true; the input reads as it did. -/
def udpBackUptoRow : OpenClaim := { program := "ythhkdjoonnofdaa", sum := "ecb6f825402262f75d8e0a1457957ebe3b11a646dde0d71389dfbf005ebb1d46", func := "culvert/culvertlaw07.UdpBack", spec := "udpBack", unfollowed := true, recurses := true, apart := false, narrowed := true }
def UdpBackUptoSaid : Prop := udpBackUptoRow.holds Try.pinned (OpenSpec.upto udpBackSpec)

/-- 'culvertlaw07.UdpEnds', WHERE WHAT IT READS IS OF BULK AT MOST 1048576: true; the input reads as it did. -/
def udpEndsUptoRow : OpenClaim := { program := "ythhkdjoonnofdaa", sum := "ecb6f825402262f75d8e0a1457957ebe3b11a646dde0d71389dfbf005ebb1d46", func := "culvert/culvertlaw07.UdpEnds", spec := "udpEnds", unfollowed := true, recurses := true, apart := false, narrowed := true }
def UdpEndsUptoSaid : Prop := udpEndsUptoRow.holds Try.pinned (OpenSpec.upto udpEndsSpec)

end Rows
end Go.Proofs.Ythhkdjoonnofdaa

/-
  No cell of these rows narrows 'for every input' (looked for: loops, veiled, ifaces, maps, wideKeys, modest, calm, conditions, laid).
  DERIVED. THE GIVEN ROWS OF THIS SEAT. 2 by the template 'for every input the law returns true; each argument reads behind the call as it read before'; 0 by the template 'total and deterministic' (their statements: YtebbnincclgagaaTotals.lean).
  GIVEN WITH THE SEED: the statements are not yours to turn. If you find one false, say at which input.
  Laid BY PROGRAM, IN A SANDBOX (cutbox-rows.mjs): the forced cells as the released guide's own fill.sh prints them over the translation 403ec9eed824a680… (all of the seat's roots in one cut). By AI agents, Wed Nov 11 2026. No macro, syntax, notation, axiom, sorry.
-/
import Derived.Test.YtebbnincclgagaaChecked
import GoSem.Claim
import GoSem.ClaimJoined
import GoSem.ClaimMapViews
import Derived.JoinedTies
import Derived.KernelRfl
namespace Go.Proofs.Ytebbnincclgagaa
/- THE CELL 'sum', in the pinned program and in every row, IS THE sha256 OF THE DUMP (.gsa) THAT YtebbnincclgagaaProg.lean LOADS. Nothing in Lean hashes anything: it is a label: what it is worth is what the hold of that sum in a sandbox is worth. -/
noncomputable def Try.pinned : Pinned := { name := "ytebbnincclgagaa", sum := "403ec9eed824a68040538a2a972a4df0190d59eba25a2858d1eb1a7f2798b113", checked := Try.checked }
namespace Rows
def none {H : Type} : Left H := { results := [], args := [] }

/-- 'culvertlaw04.Ipv4Fields': WHATEVER THE INPUT: true; the input reads as it did. -/
def ipv4FieldsSpec : ChangeSpec := { name := "ipv4Fields", fn := fun _ => fun
  | [d1, d2, d3] => { results := [.lit (.bool true)], args := [d1, d2, d3] }
  | _ => none }
def ipv4FieldsRow : OpenClaim := { program := "ytebbnincclgagaa", sum := "403ec9eed824a68040538a2a972a4df0190d59eba25a2858d1eb1a7f2798b113", func := "culvert/culvertlaw04.Ipv4Fields", spec := "ipv4Fields", unfollowed := true, recurses := true, apart := false }
def Ipv4FieldsSaid : Prop := ipv4FieldsRow.holds Try.pinned (OpenSpec.ofChange ipv4FieldsSpec)

/-- ITS FALSE NEIGHBOUR: 'it returns false'. Refute it at one input. -/
def ipv4FieldsWrong : ChangeSpec := { name := "ipv4Fields", fn := fun _ => fun
  | [d1, d2, d3] => { results := [.lit (.bool false)], args := [d1, d2, d3] }
  | _ => none }
def Ipv4FieldsWrongFalsely : Prop := ipv4FieldsRow.holds Try.pinned (OpenSpec.ofChange ipv4FieldsWrong)

/-- 'culvertlaw04.Ipv4Known': WHATEVER THE INPUT: true; the input reads as it did. -/
def ipv4KnownSpec : ChangeSpec := { name := "ipv4Known", fn := fun _ => fun
  | [] => { results := [.lit (.bool true)], args := [] }
  | _ => none }
def ipv4KnownRow : OpenClaim := { program := "ytebbnincclgagaa", sum := "403ec9eed824a68040538a2a972a4df0190d59eba25a2858d1eb1a7f2798b113", func := "culvert/culvertlaw04.Ipv4Known", spec := "ipv4Known", unfollowed := true, recurses := true, apart := false }
def Ipv4KnownSaid : Prop := ipv4KnownRow.holds Try.pinned (OpenSpec.ofChange ipv4KnownSpec)

/-- ITS FALSE NEIGHBOUR: 'it returns false'. Refute it at one input. -/
def ipv4KnownWrong : ChangeSpec := { name := "ipv4Known", fn := fun _ => fun
  | [] => { results := [.lit (.bool false)], args := [] }
  | _ => none }
def Ipv4KnownWrongFalsely : Prop := ipv4KnownRow.holds Try.pinned (OpenSpec.ofChange ipv4KnownWrong)

/- THE SECOND FORM. 'bulk': how many values and letters a reading holds, each counted each time it is reached (what is shared counts as often as it is met; a slice's spare places count too). A statement '..UptoSaid' is the law's where the arguments, and the package variables that the reading takes, are together of bulk at most 1048576: NARROWER than '..Said'. Prove '..Said' where nothing that the law and all that it calls make is longer than what came in: it says more and counts as full. Else prove '..UptoSaid'. A law counts once. -/
mutual
def uptoBulk {H : Type} : DataW H → Nat
  | .lit (.string bytes) => bytes.length + 1
  | .lit _ => 1
  | .nil => 1
  | .ptr d => uptoBulk d + 1
  | .slice elems spare => uptoBulkAll elems + uptoBulkAll spare + 1
  | .agg parts => uptoBulkAll parts + 1
  | .iface _ d => uptoBulk d + 1
  | .map entries => uptoBulkEntries entries + 1
  | .held _ => 1
def uptoBulkAll {H : Type} : List (DataW H) → Nat
  | [] => 0
  | d :: r => uptoBulk d + uptoBulkAll r
def uptoBulkEntries {H : Type} : List (Lit × DataW H) → Nat
  | [] => 0
  | x :: r => uptoBulkEntry x + uptoBulkEntries r
def uptoBulkEntry {H : Type} : Lit × DataW H → Nat
  | (.string bytes, d) => bytes.length + uptoBulk d + 1
  | (_, d) => uptoBulk d + 1
 end
def uptoSmall : (H : Type) → List (DataW H) → Bool := fun _ ds => decide (uptoBulkAll ds ≤ 1048576)
def OpenSpec.upto (s : _root_.Go.ChangeSpec) : _root_.Go.OpenSpec := { _root_.Go.OpenSpec.ofChange s with cond := some uptoSmall }

/-- 'culvertlaw04.Ipv4Fields', WHERE WHAT IT READS IS OF BULK AT MOST 1048576: true; the input reads as it did. -/
def ipv4FieldsUptoRow : OpenClaim := { program := "ytebbnincclgagaa", sum := "403ec9eed824a68040538a2a972a4df0190d59eba25a2858d1eb1a7f2798b113", func := "culvert/culvertlaw04.Ipv4Fields", spec := "ipv4Fields", unfollowed := true, recurses := true, apart := false, narrowed := true }
def Ipv4FieldsUptoSaid : Prop := ipv4FieldsUptoRow.holds Try.pinned (OpenSpec.upto ipv4FieldsSpec)

/-- 'culvertlaw04.Ipv4Known', WHERE WHAT IT READS IS OF BULK AT MOST 1048576: true; the input reads as it did. -/
def ipv4KnownUptoRow : OpenClaim := { program := "ytebbnincclgagaa", sum := "403ec9eed824a68040538a2a972a4df0190d59eba25a2858d1eb1a7f2798b113", func := "culvert/culvertlaw04.Ipv4Known", spec := "ipv4Known", unfollowed := true, recurses := true, apart := false, narrowed := true }
def Ipv4KnownUptoSaid : Prop := ipv4KnownUptoRow.holds Try.pinned (OpenSpec.upto ipv4KnownSpec)

end Rows
end Go.Proofs.Ytebbnincclgagaa

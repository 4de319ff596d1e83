/-
  Proved here: what udp.Parse computes. Conditions: numbers within their kinds, at most 2^47 - 4096 bytes.
-/
import Derived.Test.YtebbnincclgagaaLibs
import Derived.Test.YtebbnincclgagaaUdp
import Derived.Test.YtebbnincclgagaaRegion
namespace Go.Proofs.Ytebbnincclgagaa
set_option maxRecDepth 16000
open Go.ChangeShapes Go.WideShapes Go.ChangeAt Go.RowKit Go.Cul Go.Loose
set_option linter.unusedVariables false
attribute [local go_sem] Loose.Still Loose.Upon

/-- The number of two bytes at a place. -/
def be16 (l : List Int) (k : Nat) : Int := l.getD k 0 * 256 + l.getD (k + 1) 0
theorem be16_bd {l : List Int} (h : Byt l) (k : Nat) : 0 ≤ be16 l k ∧ be16 l k ≤ 65535 := by
  have h1 := h.at k; have h2 := h.at (k + 1); unfold be16; omega

/-- With which error bytes are no datagram. -/
def uerr (s d : Int) (l : List Int) : Int :=
  if 1480 < l.length then 3 else if l.length < 8 then 4 else if be16 l 4 ≠ l.length then 5 else if be16 l 6 ≠ 0 ∧ csum (pseu s d 17 l.length ++ l) ≠ 65535 then 20 else 0

theorem fr_set {w : World} {base : Nat} {e : TypeId} {k : IntKind} {v : Value} {l : List Int} (h : Fr w base e k v l) {a : Addr} (ha : a.block < base) {u : Value} : Fr (w.setCell a u) base e k v l := by
  rcases h with h | h
  · refine .inl (h.other (fun he => ?_) u)
    have := (h.block _ he).1
    omega
  · exact .inr h

/-- The datagram of bytes. -/
def upar (s d : Int) (l : List Int) : Int × Int × List Int := if uerr s d l = 0 then (be16 l 0, be16 l 2, l.drop 8) else (0, 0, [])

end Go.Proofs.Ytebbnincclgagaa

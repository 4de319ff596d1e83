/-
  Proved here: shifts as plain mathematics: what May, Window, options, piece and Over tell. No walk.
-/
import Derived.Test.YtgbbpibcmpeneaaOptW
import Derived.Test.YtgbbpibcmpeneaaTcp
namespace Go.Proofs.Ytgbbpibcmpeneaa
set_option maxRecDepth 200000
open Go Go.Cul
set_option linter.unusedVariables false

structure Shf where
  sq : Int
  ak : Int
  sack : Bool
  fr : Int
  to : Int
  mss : Int
structure Shf.ok (x : Shf) : Prop where
  sq : 0 ≤ x.sq ∧ x.sq ≤ 4294967295
  ak : 0 ≤ x.ak ∧ x.ak ≤ 4294967295
  fr : -9223372036854775808 ≤ x.fr ∧ x.fr ≤ 9223372036854775807
  to : -9223372036854775808 ≤ x.to ∧ x.to ≤ 9223372036854775807
  mss : -9223372036854775808 ≤ x.mss ∧ x.mss ≤ 9223372036854775807
abbrev Shf.cells (x : Shf) : Array Value := #[.int .u32 x.sq, .int .u32 x.ak, .bool x.sack, .int .i64 x.fr, .int .i64 x.to, .int .i64 x.mss]
def Shf.may (x : Shf) : Bool := (decide (0 ≤ x.fr) && decide (x.fr ≤ 14)) && (decide (0 ≤ x.to) && decide (x.to ≤ 14)) && decide (1 ≤ x.mss) && decide (x.mss ≤ 1460)
def Shf.win (x : Shf) (n : Int) : Int := if x.may then (if 65535 < n * 2 ^ x.fr.toNat / 2 ^ x.to.toNat then 65535 else n * 2 ^ x.fr.toNat / 2 ^ x.to.toNat) else 0
/-- Is an option kept? -/
def keepK (o : Op1) : Bool := decide (4 < o.1) && !(o.1 == 8)
def mvB (x : Shf) (bs : List Bk) : List Bk := bs.map fun b => ((b.1 + x.ak) % 4294967296, (b.2 + x.ak) % 4294967296)
/-- One option over a shift; is a SACK option told? -/
def sone (x : Shf) (t : Bool) (o : Op1) : List Op1 × Bool :=
  if keepK o then (if o.1 = 5 then (if t || !x.sack || decide ((osacks [o]).length = 0) then ([], t) else ([(owith (mvB x (osacks [o]))).1], true)) else ([o], t)) else ([], t)
def sovG (x : Shf) : Bool → List Op1 → List Op1
  | _, [] => []
  | t, o :: r => (sone x t o).1 ++ sovG x (sone x t o).2 r
def sov (x : Shf) (os : List Op1) : List Op1 := sovG x false os

/-- A flag's bit. -/
def clr9 (f : Int) : Int := f - f % 2 - 8 * (f / 8 % 2)
def clr32 (f : Int) : Int := f - 32 * (f / 32 % 2)
def pieceU (u : Int) (fr : Nat) : Int := if (u : Int) - fr < 0 then 0 else u - fr
def pieceF (s : Sg) (fr n : Nat) : Int := if 0 < fr ∧ pieceU s.urg fr = 0 then clr32 (if fr + n < s.data.length then clr9 s.f else s.f) else (if fr + n < s.data.length then clr9 s.f else s.f)
def pieceS (s : Sg) (fr n : Nat) : Sg := { s with seq := (s.seq + fr) % 4294967296, os := owo s.os 0, data := (s.data.drop fr).take n, urg := pieceU s.urg fr, f := pieceF s fr n }
/-- The segment ahead of its cutting. -/
def overS (x : Shf) (s : Sg) : Sg := { s with seq := (s.seq + x.sq) % 4294967296, ack := if fl s.f 16 then (s.ack + x.ak) % 4294967296 else 0, win := x.win s.win, os := sov x s.os }
def overN (x : Shf) (s : Sg) : Nat := if x.mss - (oput (sov x s.os)).1.length < 1 then 1 else (x.mss - (oput (sov x s.os)).1.length).toNat
def pieceAt (s : Sg) (size i : Nat) : Sg := pieceS s (i * size) (min size (s.data.length - i * size))
/-- How many pieces. -/
def cnt (len size : Nat) : Nat := if len = 0 then 1 else (len + size - 1) / size
def overL (x : Shf) (s : Sg) : List Sg × Int :=
  if (oput s.os).2 ≠ 0 ∨ x.may = false then ([], 1) else if fl s.f 2 then ([], 24) else ((List.range (cnt s.data.length (overN x s))).map (pieceAt (overS x s) (overN x s)), 0)
end Go.Proofs.Ytgbbpibcmpeneaa

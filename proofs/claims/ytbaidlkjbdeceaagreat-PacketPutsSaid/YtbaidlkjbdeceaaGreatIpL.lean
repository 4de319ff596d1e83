/-
  Proved here: IPv4 heads as bytes, as plain mathematics. No walk.
-/
import Derived.Test.YtbaidlkjbdeceaaGreatCore
import Derived.Test.YtbaidlkjbdeceaaGreatSums
namespace Go.Proofs.YtbaidlkjbdeceaaGreat
set_option maxRecDepth 200000
open Go Go.Cul
set_option linter.unusedVariables false

structure Hd where
  tos : Int
  id : Int
  df : Bool
  ttl : Int
  proto : Int
  src : Int
  dst : Int
  op : List Int
structure Hd.ok (h : Hd) : Prop where
  tos : 0 ≤ h.tos ∧ h.tos ≤ 255
  id : 0 ≤ h.id ∧ h.id ≤ 65535
  ttl : 0 ≤ h.ttl ∧ h.ttl ≤ 255
  proto : 0 ≤ h.proto ∧ h.proto ≤ 255
  src : 0 ≤ h.src ∧ h.src ≤ 4294967295
  dst : 0 ≤ h.dst ∧ h.dst ≤ 4294967295
  op : Byt h.op
abbrev Hd.cells (h : Hd) (vo : Value) : Array Value := #[.int .u8 h.tos, .int .u16 h.id, .bool h.df, .int .u8 h.ttl, .int .u8 h.proto, .int .u32 h.src, .int .u32 h.dst, vo]
def Hd.may (h : Hd) : Bool := decide (0 < h.ttl) && (decide (h.op.length ≤ 40) && decide (h.op.length % 4 = 0))
/-- What stands ahead of the field; behind it. -/
def Hd.pre (h : Hd) (p : Nat) : List Int := [64 + (((20 + h.op.length) / 4 : Nat) : Int), h.tos] ++ by2 ((20 + h.op.length + p : Nat) : Int) ++ by2 h.id ++ by2 (if h.df then 16384 else 0) ++ [h.ttl, h.proto]
def Hd.lay (h : Hd) (p : Nat) (f : Int) : List Int := h.pre p ++ by2 f ++ by4 h.src ++ by4 h.dst ++ h.op
def Hd.field (h : Hd) (p : Nat) : Int := 65535 - csum (h.lay p 0)
/-- A head and a payload as bytes, the error. -/
def hput (h : Hd) (p : List Int) : List Int × Int :=
  if h.may = false then ([], 1) else if 1500 - (20 + h.op.length) < p.length then ([], 3) else (h.lay p.length (h.field p.length) ++ p, 0)
theorem Hd.lay_len (h : Hd) (p : Nat) (f : Int) : (h.lay p f).length = 20 + h.op.length := by
  simp [Hd.lay, Hd.pre, by2, by4]; omega
theorem Hd.pre_byt {h : Hd} (hh : h.ok) (hm : h.op.length ≤ 40) {p : Nat} (hp : 20 + h.op.length + p ≤ 1500) : Byt (h.pre p) := by
  refine ((((Byt.app ?_ ?_).app ?_).app ?_).app ?_)
  · intro x hx
    simp only [List.mem_cons, List.not_mem_nil, or_false] at hx
    rcases hx with rfl | rfl
    · omega
    · exact hh.tos
  · exact by2_byt _ (by omega)
  · exact by2_byt _ hh.id
  · exact by2_byt _ (by split <;> omega)
  · intro x hx
    simp only [List.mem_cons, List.not_mem_nil, or_false] at hx
    rcases hx with rfl | rfl
    · exact hh.ttl
    · exact hh.proto
theorem Hd.lay_byt {h : Hd} (hh : h.ok) (hm : h.op.length ≤ 40) {p : Nat} (hp : 20 + h.op.length + p ≤ 1500) {f : Int} (hf : 0 ≤ f ∧ f ≤ 65535) : Byt (h.lay p f) :=
  ((((Hd.pre_byt hh hm hp).app (by2_byt _ hf)).app (by4_byt _ hh.src)).app (by4_byt _ hh.dst)).app hh.op
theorem Hd.field_bd {h : Hd} (hh : h.ok) (hm : h.op.length ≤ 40) {p : Nat} (hp : 20 + h.op.length + p ≤ 1500) : 0 ≤ h.field p ∧ h.field p ≤ 65535 := by
  have := csum_bd (Hd.lay_byt hh hm hp (f := 0) (by omega))
  unfold Hd.field
  omega
end Go.Proofs.YtbaidlkjbdeceaaGreat

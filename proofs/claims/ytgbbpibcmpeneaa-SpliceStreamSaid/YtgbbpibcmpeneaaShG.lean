/-
  Proved here: culvertlaw25's plain: the shift, the segment cut and without Syn, and whether it can go over.
-/
import Derived.Test.YtgbbpibcmpeneaaShF
import Derived.Test.YtgbbpibcmpeneaaMv
namespace Go.Proofs.Ytgbbpibcmpeneaa
set_option maxRecDepth 200000
open Go.ChangeShapes Go.WideShapes Go.ChangeAt Go.RowKit Go.Cul Go.Loose
set_option linter.unusedVariables false
attribute [local go_sem] Loose.Still Loose.Upon Loose.vUpon

def clr2 (f : Int) : Int := f - 2 * (f / 2 % 2)
theorem anot2 (f : Int) (h : 0 ≤ f ∧ f ≤ 255) : bits BinOp.andNot IntKind.u8 f 2 = clr2 f := by
  obtain ⟨n, rfl⟩ := Int.eq_ofNat_of_zero_le h.1
  have hn : n < 256 := by omega
  clear h; revert n; decide +kernel
theorem clr2_bd {f : Int} (h : 0 ≤ f ∧ f ≤ 255) : 0 ≤ clr2 f ∧ clr2 f ≤ 255 := by unfold clr2; omega
/-- The segment that goes over. -/
def plG (g : Sg) : Sg := { fwG g with f := clr2 g.f }
def plB (x : Shf) (g : Sg) : Bool := x.may && decide ((oput (fwO g.os)).2 = 0)
theorem plG_ok {g : Sg} (h : g.ok) : (plG g).ok := ⟨h.sp, h.dp, h.seq, h.ack, clr2_bd h.f, h.win, h.urg, fwO_byt h.os, h.data.take _⟩
theorem seg_one (g : Sg) (a : Option Addr) (n c : Nat) (b : Option Addr) (m d : Nat) : (g.cells (.slice a n c) (.slice b m d)).all (·.oneCell') = true := by simp [Value.oneCell']
theorem shf_one (x : Shf) : x.cells.all (·.oneCell') = true := by simp [Value.oneCell']
theorem seg_sz (g : Sg) (u v : Value) : (Try.prog.info? 51).map (·.size) = some (g.cells u v).size := by kernel_rfl
theorem shf_sz (x : Shf) : (Try.prog.info? 40).map (·.size) = some x.cells.size := by kernel_rfl

end Go.Proofs.Ytgbbpibcmpeneaa

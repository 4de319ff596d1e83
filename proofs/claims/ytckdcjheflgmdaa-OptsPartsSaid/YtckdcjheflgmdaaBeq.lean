/-
  Proved here: what bytes.Equal computes at any bytes.
-/
import Derived.Test.YtckdcjheflgmdaaRows
import Derived.Test.YtckdcjheflgmdaaLib
namespace Go.Proofs.Ytckdcjheflgmdaa
set_option maxRecDepth 16000
open Go.ChangeShapes Go.WideShapes Go.ChangeAt Go.RowKit Go.Cul
set_option linter.unusedVariables false

theorem nums_back (a : List Int) (ha : Byt a) : (strOfNums a).data.toList.map (fun x => (x.toNat : Int)) = a := by
  rw [strOfNums_data, List.map_map]
  conv => rhs; rw [← List.map_id a]
  refine List.map_congr_left fun x hx => ?_
  have := ha x hx
  simp only [Function.comp, id]
  rw [UInt8.toNat_ofNat']
  omega

theorem beq_any (u v : Value) (a b : List Int) (w : World) (hu : Rd .u8 w u a) (hv : Rd .u8 w v b) (ha : Byt a) (hb : Byt b) : Calls Try.prog 14 #[u, v] w fun e w' => e = .returned (.bool (decide (a = b))) ∧ Ext w w' := by
  have h1 := run_conv_rd (P := Try.prog) (src := 22) (e := 5) (dst := 9) (by kernel_rfl) (by kernel_rfl) (by kernel_rfl) hu
  have h2 := run_conv_rd (P := Try.prog) (src := 22) (e := 5) (dst := 9) (by kernel_rfl) (by kernel_rfl) (by kernel_rfl) hv
  have hq : ((strOfNums a).toList == (strOfNums b).toList) = decide (a = b) := by
    rw [ByteArray.toList_eq, ByteArray.toList_eq, Bool.eq_iff_iff, decide_eq_true_iff, beq_iff_eq]
    refine ⟨fun h => ?_, fun h => by rw [h]⟩
    rw [← nums_back a ha, ← nums_back b hb, h]
  clear ha hb
  go_enter Try.func14, Try.ntmps14
  go_wp2
  go_ret
  exact ⟨rfl, Ext.rfl' _⟩
end Go.Proofs.Ytckdcjheflgmdaa

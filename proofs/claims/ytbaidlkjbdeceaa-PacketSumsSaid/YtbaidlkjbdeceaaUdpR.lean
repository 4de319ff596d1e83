/-
  Proved here: what culvertref07's functions compute: the same datagrams and errors. Conditions: numbers within their kinds, at most 2^47 - 4096 bytes.
-/
import Derived.Test.YtbaidlkjbdeceaaUdpP
import Derived.Test.YtbaidlkjbdeceaaRef3
namespace Go.Proofs.Ytbaidlkjbdeceaa
set_option maxRecDepth 200000
open Go.ChangeShapes Go.WideShapes Go.ChangeAt Go.RowKit Go.Cul
set_option linter.unusedVariables false

theorem bys_four (n : Int) (h : 0 ≤ n ∧ n ≤ 4294967295) : bys 4 n = by4 n := by
  simp [bys, by4]; omega

theorem num_two {l : List Int} {k : Nat} (h : k + 2 ≤ l.length) : num ((l.drop k).take 2) = be16 l k := by
  have h1 : (l.drop k).take 2 = [l.getD k 0, l.getD (k + 1) 0] := by
    apply List.ext_getElem?
    intro i
    rcases i with _ | _ | i
    · simp [List.getD, show k < l.length by omega]
    · simp [List.getD, List.getElem?_drop, show k + 1 < l.length by omega]
    · simp; omega
  rw [h1]
  simp [num, be16]

theorem r7same_any (sp dp sp' dp' : Int) (v v' : Value) (l l' : List Int) (w : World) (hv : Rd .u8 w v l) (hv' : Rd .u8 w v' l') (hb : Byt l) (hb' : Byt l') :
    Calls Try.prog 25 #[.agg #[.int .u16 sp, .int .u16 dp, v], .agg #[.int .u16 sp', .int .u16 dp', v']] w fun e w' => e = .returned (.bool (usame sp dp l sp' dp' l')) ∧ Ext w w' := by
  have hU : Hid (usame sp dp l sp' dp' l' = ((sp == sp') && (dp == dp') && decide (l = l'))) := rfl
  have hx0 : Ext w ((w.alloc (.cells #[.int .u16 sp, .int .u16 dp, v] 31)).alloc (.cells #[.int .u16 sp', .int .u16 dp', v'] 31)) := (Ext.new _ _).al _
  have h1 := run_conv_rd (P := Try.prog) (src := 24) (e := 5) (dst := 9) (by kernel_rfl) (by kernel_rfl) (by kernel_rfl) (hv.ext hx0)
  have h2 := run_conv_rd (P := Try.prog) (src := 24) (e := 5) (dst := 9) (by kernel_rfl) (by kernel_rfl) (by kernel_rfl) (hv'.ext hx0)
  have hq : ((strOfNums l).toList == (strOfNums l').toList) = decide (l = l') := by
    rw [ByteArray.toList_eq, ByteArray.toList_eq, Bool.eq_iff_iff, decide_eq_true_iff, beq_iff_eq]
    refine ⟨fun h => ?_, fun h => by rw [h]⟩
    rw [← nums_back l hb, ← nums_back l' hb', h]
  obtain ⟨a, cap, rfl, -, -, -⟩ := hv
  obtain ⟨a', cap', rfl, -, -, -⟩ := hv'
  clear hb hb'
  rcases hs : (sp == sp') with _ | _
  · rw [hs] at hU
    go_enter Try.func25, Try.ntmps25
    go_wp2
    go_ret
    rw [hU.out]
    exact ⟨rfl, hx0⟩
  rcases hd : (dp == dp') with _ | _
  · rw [hs, hd] at hU
    go_enter Try.func25, Try.ntmps25
    go_wp2
    go_ret
    rw [hU.out]
    exact ⟨rfl, hx0⟩
  rw [hs, hd] at hU
  go_enter Try.func25, Try.ntmps25
  go_wp2
  go_ret
  rw [hU.out]
  exact ⟨rfl, hx0⟩
end Go.Proofs.Ytbaidlkjbdeceaa

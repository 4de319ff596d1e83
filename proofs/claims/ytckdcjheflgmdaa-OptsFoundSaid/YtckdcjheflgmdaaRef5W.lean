/-
  Proved here: what culvertref05's Without, Mss, Scale, SackOk compute.
-/
import Derived.Test.YtckdcjheflgmdaaOptW
import Derived.Deep.Cut
namespace Go.Proofs.Ytckdcjheflgmdaa
set_option maxRecDepth 16000
open Go.ChangeShapes Go.WideShapes Go.ChangeAt Go.RowKit Go.Cul Go.Loose
set_option linter.unusedVariables false
attribute [local go_sem] Loose.Still Loose.Upon Loose.vUpon

theorem src_one {w : World} {base b : Nat} {k : Int} {u : Value} {l : List Int} {t : TypeId} (hb : w.heap[b]? = some (.cells #[.int .u8 k, u] t)) (hu : DatO base w u l) : SrcO base w (.slice (some ⟨b, 0, none⟩) 1 1) [(k, l)] := by
  refine ⟨_, 1, rfl, by simp, by decide, .inr ⟨b, 0, rfl, fun i hi => ?_⟩⟩
  obtain rfl : i = 0 := by simpa using hi
  refine ⟨u, ?_, ?_, ?_⟩
  · rw [cell_blk hb]; rfl
  · rw [cell_blk hb]; rfl
  · exact hu

set_option maxHeartbeats 1000000 in
theorem r5without_any (v : Value) (os : List Op1) (kd : Int) (w : World) (hv : RdO w v os) (hn : os.length ≤ 50000) :
    Calls Try.prog 25 #[v, .int .u8 kd] w fun e w' => ∃ u, e = .returned u ∧ RdO w' u (owo os kd) ∧ Ext w w' := by
  obtain ⟨a, cap, rfl, hc1, hc2, hr⟩ := id hv
  unfold maxLen at hc2
  have HR := Lib.hid hr
  clear hr hv
  go_enter Try.func25, Try.ntmps25
  go_wp2_with fail
  go_loopw [5, 6] (fun u i wr => ∃ k : Nat, k ≤ os.length ∧ i = .int .i64 k ∧ MiO wr w.heap.size u (owo (os.take k) kd) ∧ Ext w wr) (fun _ i _ => os.length - (intOf i).toNat)
  case atStart => exact ⟨0, Nat.zero_le _, rfl, MiO.empty _ _ _, Ext.rfl' _⟩
  case round =>
    obtain ⟨k, hk, rfl, hfo, hx⟩ := hrel
    by_cases hlt : k < os.length
    · rcases HR.out with h0 | ⟨b, o, rfl, hrw⟩
      · rw [h0] at hlt; simp at hlt
      obtain ⟨u, e0, e1, hu⟩ := hrw k hlt
      clear hrw
      have e0 := hx.cell e0
      have e1 := hx.cell e1
      have htk := owo_take kd hlt
      have hac : (owo (os.take k) kd).length ≤ 50000 := by have := owo_len (os.take k) kd; rw [List.length_take] at this; omega
      generalize owo (os.take k) kd = acc at *
      generalize os.getD k (0, []) = y at *
      obtain ⟨kx, D⟩ := y
      dsimp only at e0 hu htk
      obtain ⟨au, nu, cu, rfl⟩ := hu.shape
      have HU := Lib.hid hu
      obtain ⟨av, cv, rfl⟩ := hfo.rdo.shape
      have hFO := Lib.hid hfo
      clear hu hfo
      rcases hkk : (kx == kd) with _ | _
      · rw [hkk, if_neg (by simp)] at htk
        have HT := Lib.hid htk
        have hkk' : (kx != kd) = true := by rw [bne, hkk]; rfl
        clear htk hkk
        go_wp2_with (at_builtin; go_must (refine wpList_appM rfl (.tmp 20) (.tmp 25) rfl w.heap.size _ acc rfl (hFO.out.ext (Ext.new _ _)) _ [(kx, D)] rfl (src_one (heap_alloc_new _ _) (.inr ⟨w, Nat.le_refl _, hx.al _, HU.out⟩)) (by simp; omega) (by have := hx.size; simp; omega) ?_); intro v2 w2 hmi2 hx2)
        have hx3 := hx2 w (Nat.le_refl _) (hx.al _)
        go_roundw
        case rel => exact ⟨k + 1, by omega, by go_num, by rw [HT.out]; exact hmi2, hx3⟩
        case measure => simp [intOf]; omega
      · rw [hkk, if_pos rfl, List.append_nil] at htk
        have HT := Lib.hid htk
        have hkk' : (kx != kd) = false := by rw [bne, hkk]; rfl
        clear htk hkk
        go_wp2_with fail
        go_roundw
        case rel => exact ⟨k + 1, by omega, by go_num, by rw [HT.out]; exact hFO.out, hx⟩
        case measure => simp [intOf]; omega
    · obtain rfl : k = os.length := by omega
      rw [List.take_length] at hfo
      have ho := hfo.rdo
      obtain ⟨av, cv, rfl⟩ := ho.shape
      clear hfo
      go_wp2_with fail
      go_ret
      exact ⟨_, rfl, ho, hx⟩
end Go.Proofs.Ytckdcjheflgmdaa

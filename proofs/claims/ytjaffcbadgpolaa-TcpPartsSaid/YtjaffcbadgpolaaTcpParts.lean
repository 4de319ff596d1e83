/-
  Proved here: the law TcpParts returns true. Condition: each slice at most 2^47 - 4096 bytes (the form's own reach).
-/
import Derived.Test.YtjaffcbadgpolaaTcpL
import Derived.Test.YtjaffcbadgpolaaTcpS
import Derived.Deep.Cut
import Derived.BigRegion
namespace Go.Proofs.Ytjaffcbadgpolaa.tcpParts
open Go.ChangeShapes Go.WideShapes Go.ChangeAt Go.RowKit Go.Cul Go.Loose
set_option linter.unusedVariables false
attribute [local go_sem] Loose.Still Loose.Upon Loose.vUpon

theorem str_app (a b : List Int) : strOfNums a ++ strOfNums b = strOfNums (a ++ b) := by
  unfold strOfNums
  apply ByteArray.ext
  simp
theorem andNot1 (f : Int) (hf : 0 ≤ f ∧ f ≤ 255) : bits BinOp.andNot IntKind.u8 f 1 = f - f % 2 := by
  obtain ⟨n, rfl⟩ := Int.eq_ofNat_of_zero_le hf.1
  have hn : n < 256 := by omega
  clear hf
  revert n
  decide +kernel

set_option maxHeartbeats 4000000 in
set_option maxRecDepth 100000 in
theorem walk (w : World) (s : Int) (hs : 0 ≤ s ∧ s ≤ 4294967295) (d : Int) (hd : 0 ≤ d ∧ d ≤ 4294967295) (cs : Array Value) (hcs : Reads w segSh cs.toList) (at_ : Int) (hat : 0 ≤ at_ ∧ at_ ≤ 65535) :
    Calls Try.prog 8 #[.int .u32 s, .int .u32 d, .agg cs, .int .u16 at_] w fun e w' => e = .returned (.bool true) ∧ Ext w w' := by
  obtain ⟨g, vo, vd, rfl, hg, hvo, hvd, hn, hno⟩ := open_segment hcs
  clear hcs hno
  obtain ⟨ao, co, rfl⟩ := hvo.shape
  obtain ⟨ad, cd, rfl, hd1, hd2, -⟩ := id hvd
  have hmay := fun (W : World) (hx : Ext w W) => tmay_any g _ _ W hg (hvo.ext hx) (hvd.ext hx) hn
  by_cases hmt : ¬ (tmay g = true ∧ fl g.f 2 = false)
  · have HMAY := Lib.hid hmay
    have ha2 := and2 g.f hg.f
    rcases hm : tmay g with _ | _
    · go_enter Try.func8, Try.ntmps8
      go_upto_region 1 with (fail)
      generalize hW : World.alloc w _ = W
      have hxW : Ext w W := by rw [← hW]; exact Ext.new _ _
      have kg : W.heap[w.heap.size]? = some (.cells (g.cells (.slice ao g.os.length co) (.slice ad g.data.length cd)) 27) := by rw [← hW]; exact heap_alloc_new w _
      clear hW hmay hmt
      have e0 := cell_blk kg 0
      have e1 := cell_blk kg 1
      have e2 := cell_blk kg 2
      have e3 := cell_blk kg 3
      have e4 := cell_blk kg 4
      have e5 := cell_blk kg 5
      have e6 := cell_blk kg 6
      have e7 := cell_blk kg 7
      have e8 := cell_blk kg 8
      simp at e0 e1 e2 e3 e4 e5 e6 e7 e8
      go_wp2_with fail
      refine (HMAY.out _ hxW).mono ?_
      rw [hm]
      rintro e w1 ⟨rfl, hx1⟩
      go_wp2_with fail
      refine (wakes6_any _).mono ?_
      rintro e w8 ⟨rfl, hx8⟩
      go_wp2_with fail
      go_ret
      exact ⟨rfl, hxW.tr (hx1.tr hx8)⟩
    · have hf2 : fl g.f 2 = true := by
        rcases h : fl g.f 2 with _ | _
        · exact absurd ⟨hm, h⟩ hmt
        · rfl
      rw [hf2, if_pos rfl] at ha2
      go_enter Try.func8, Try.ntmps8
      go_upto_region 1 with (fail)
      generalize hW : World.alloc w _ = W
      have hxW : Ext w W := by rw [← hW]; exact Ext.new _ _
      have kg : W.heap[w.heap.size]? = some (.cells (g.cells (.slice ao g.os.length co) (.slice ad g.data.length cd)) 27) := by rw [← hW]; exact heap_alloc_new w _
      clear hW hmay hmt
      have e0 := cell_blk kg 0
      have e1 := cell_blk kg 1
      have e2 := cell_blk kg 2
      have e3 := cell_blk kg 3
      have e4 := cell_blk kg 4
      have e5 := cell_blk kg 5
      have e6 := cell_blk kg 6
      have e7 := cell_blk kg 7
      have e8 := cell_blk kg 8
      simp at e0 e1 e2 e3 e4 e5 e6 e7 e8
      go_wp2_with fail
      refine (HMAY.out _ hxW).mono ?_
      rw [hm]
      rintro e w1 ⟨rfl, hx1⟩
      have e4 := hx1.cell e4
      go_wp2_with fail
      refine (wakes6_any _).mono ?_
      rintro e w8 ⟨rfl, hx8⟩
      go_wp2_with fail
      go_ret
      exact ⟨rfl, hxW.tr (hx1.tr hx8)⟩
  obtain ⟨hm, hf2⟩ := Classical.not_not.1 hmt
  rw [hm] at hmay
  have ha2 := and2 g.f hg.f
  rw [hf2] at ha2
  simp only [Bool.false_eq_true, if_false] at ha2
  rw [tmay_iff g s d, decide_eq_true_iff] at hm
  rcases tput_cases hg hs hd with ⟨E, hE, hT, -⟩ | ⟨O, ho, hO, hl4, h4, hf, hT, hF, hT2⟩
  · rw [hT] at hm; exact absurd hm hE
  have hNn : g.data.length ≤ 1480 := by omega
  obtain ⟨K, hK⟩ : ∃ K : Nat, at_.tmod ((g.data.length : Int) + 1) = (K : Int) := ⟨(at_.tmod ((g.data.length : Int) + 1)).toNat, by rw [Int.tmod_eq_emod_of_nonneg (by omega)]; have := Int.emod_nonneg at_ (show ((g.data.length : Int) + 1) ≠ 0 by omega); omega⟩
  have hKN : K ≤ g.data.length := by
    have : at_.tmod ((g.data.length : Int) + 1) < (g.data.length : Int) + 1 := by rw [Int.tmod_eq_emod_of_nonneg (by omega)]; exact Int.emod_lt_of_pos _ (by omega)
    omega
  have hw1 : IntKind.i64.wrap ((g.data.length : Int) + 1) = (g.data.length : Int) + 1 := by rw [IntWalk.i64_in _ (by omega)]
  have hwK : IntKind.i64.wrap (K : Int) = (K : Int) := by rw [IntWalk.i64_in _ (by omega)]
  have hN1 : ((g.data.length : Int) + 1 == 0) = false := by rw [beq_eq_false_iff_ne]; omega
  have HMAY := Lib.hid hmay
  have HG := Lib.hid hg
  clear hmay hm hmt hg
  go_enter Try.func8, Try.ntmps8
  go_upto_region 1 with (fail)
  generalize hW : World.alloc w _ = W
  have hxW : Ext w W := by rw [← hW]; exact Ext.new _ _
  have kg : W.heap[w.heap.size]? = some (.cells (g.cells (.slice ao g.os.length co) (.slice ad g.data.length cd)) 27) := by rw [← hW]; exact heap_alloc_new w _
  have hGB : w.heap.size ≤ w.heap.size := Nat.le_refl _
  clear hW
  generalize hGe : w.heap.size = G at *
  have e0 := cell_blk kg 0
  have e1 := cell_blk kg 1
  have e2 := cell_blk kg 2
  have e3 := cell_blk kg 3
  have e4 := cell_blk kg 4
  have e5 := cell_blk kg 5
  have e6 := cell_blk kg 6
  have e7 := cell_blk kg 7
  have e8 := cell_blk kg 8
  simp at e0 e1 e2 e3 e4 e5 e6 e7 e8
  go_wp2_with fail
  refine (HMAY.out _ hxW).mono ?_
  rintro e w1 ⟨rfl, hx1⟩
  have hxW1 := hxW.tr hx1
  have kg1 := hx1.block kg
  clear hx1 hxW kg e0 e1 e2 e3 e4 e5 e6 e7 e8
  have e0 := cell_blk kg1 0
  have e1 := cell_blk kg1 1
  have e2 := cell_blk kg1 2
  have e3 := cell_blk kg1 3
  have e4 := cell_blk kg1 4
  have e5 := cell_blk kg1 5
  have e6 := cell_blk kg1 6
  have e7 := cell_blk kg1 7
  have e8 := cell_blk kg1 8
  simp at e0 e1 e2 e3 e4 e5 e6 e7 e8
  go_upto_region 4 with (fail)
  have hG1 : G < w1.heap.size := lt_of_block kg1
  go_cut [10, 11] from 23 (fun u v wc => ∃ A B : Nat, u = .pointer (some ⟨A, 0, none⟩) ∧ v = .pointer (some ⟨B, 0, none⟩) ∧ A ≠ B ∧ w1.heap.size ≤ A ∧ w1.heap.size ≤ B ∧ wc.heap[A]? = some (.cells (g.cells (.slice ao g.os.length co) (.slice ad g.data.length cd)) 27) ∧ wc.heap[B]? = some (.cells (g.cells (.slice ao g.os.length co) (.slice ad g.data.length cd)) 27) ∧ Ext w1 wc)
  case first =>
    have e0_a := fun (o : Obj) => (Ext.new w1 o).cell e0
    have e0_b := fun (o : Obj) => (Ext.new w1 o).dr.cell e0
    have e0_c := fun (o o2 : Obj) => ((Ext.new w1 o).al o2).cell e0
    have e0_d := fun (o o2 : Obj) => ((Ext.new w1 o).al o2).dr.cell e0
    have e0_e := (Ext.rfl' w1).dr.cell e0
    have e1_a := fun (o : Obj) => (Ext.new w1 o).cell e1
    have e1_b := fun (o : Obj) => (Ext.new w1 o).dr.cell e1
    have e1_c := fun (o o2 : Obj) => ((Ext.new w1 o).al o2).cell e1
    have e1_d := fun (o o2 : Obj) => ((Ext.new w1 o).al o2).dr.cell e1
    have e1_e := (Ext.rfl' w1).dr.cell e1
    have e2_a := fun (o : Obj) => (Ext.new w1 o).cell e2
    have e2_b := fun (o : Obj) => (Ext.new w1 o).dr.cell e2
    have e2_c := fun (o o2 : Obj) => ((Ext.new w1 o).al o2).cell e2
    have e2_d := fun (o o2 : Obj) => ((Ext.new w1 o).al o2).dr.cell e2
    have e2_e := (Ext.rfl' w1).dr.cell e2
    have e3_a := fun (o : Obj) => (Ext.new w1 o).cell e3
    have e3_b := fun (o : Obj) => (Ext.new w1 o).dr.cell e3
    have e3_c := fun (o o2 : Obj) => ((Ext.new w1 o).al o2).cell e3
    have e3_d := fun (o o2 : Obj) => ((Ext.new w1 o).al o2).dr.cell e3
    have e3_e := (Ext.rfl' w1).dr.cell e3
    have e4_a := fun (o : Obj) => (Ext.new w1 o).cell e4
    have e4_b := fun (o : Obj) => (Ext.new w1 o).dr.cell e4
    have e4_c := fun (o o2 : Obj) => ((Ext.new w1 o).al o2).cell e4
    have e4_d := fun (o o2 : Obj) => ((Ext.new w1 o).al o2).dr.cell e4
    have e4_e := (Ext.rfl' w1).dr.cell e4
    have e5_a := fun (o : Obj) => (Ext.new w1 o).cell e5
    have e5_b := fun (o : Obj) => (Ext.new w1 o).dr.cell e5
    have e5_c := fun (o o2 : Obj) => ((Ext.new w1 o).al o2).cell e5
    have e5_d := fun (o o2 : Obj) => ((Ext.new w1 o).al o2).dr.cell e5
    have e5_e := (Ext.rfl' w1).dr.cell e5
    have e6_a := fun (o : Obj) => (Ext.new w1 o).cell e6
    have e6_b := fun (o : Obj) => (Ext.new w1 o).dr.cell e6
    have e6_c := fun (o o2 : Obj) => ((Ext.new w1 o).al o2).cell e6
    have e6_d := fun (o o2 : Obj) => ((Ext.new w1 o).al o2).dr.cell e6
    have e6_e := (Ext.rfl' w1).dr.cell e6
    have e7_a := fun (o : Obj) => (Ext.new w1 o).cell e7
    have e7_b := fun (o : Obj) => (Ext.new w1 o).dr.cell e7
    have e7_c := fun (o o2 : Obj) => ((Ext.new w1 o).al o2).cell e7
    have e7_d := fun (o o2 : Obj) => ((Ext.new w1 o).al o2).dr.cell e7
    have e7_e := (Ext.rfl' w1).dr.cell e7
    have e8_a := fun (o : Obj) => (Ext.new w1 o).cell e8
    have e8_b := fun (o : Obj) => (Ext.new w1 o).dr.cell e8
    have e8_c := fun (o o2 : Obj) => ((Ext.new w1 o).al o2).cell e8
    have e8_d := fun (o o2 : Obj) => ((Ext.new w1 o).al o2).dr.cell e8
    have e8_e := (Ext.rfl' w1).dr.cell e8
    go_region
    all_goals
      generalize hW : World.drew _ = W
      go_wp2_with fail
      go_meet
      case rel =>
        refine ⟨_, _, rfl, rfl, by omega, by omega, by omega, ?_, ?_, ?_⟩
        · rw [← hW]; show (World.alloc (World.alloc w1 _) _).heap[_]? = _; simp only [heap_alloc_at, World.size_alloc]; repeat (first | rfl | rw [if_pos (by first | trivial | omega)] | rw [if_neg (by omega)])
        · rw [← hW]; show (World.alloc (World.alloc w1 _) _).heap[_]? = _; simp only [heap_alloc_at, World.size_alloc]; repeat (first | rfl | rw [if_pos (by first | trivial | omega)] | rw [if_neg (by omega)])
        · rw [← hW]; exact ((Ext.new w1 _).al _).dr
  obtain ⟨A, B, rfl, rfl, hAB, hA1, hB1, kA, kB, hx2⟩ := hcut
  obtain ⟨W2, rfl⟩ : ∃ W2 : World, W2 = wc := ⟨_, rfl⟩
  have kg := hx2.block kg1
  have hA2 := lt_of_block kA
  have hB2 := lt_of_block kB
  clear e0 e1 e2 e3 e4 e5 e6 e7 e8
  have e8 := cell_blk kg 8
  simp at e8
  have a4 := cell_blk kA 4
  have a8 := cell_blk kA 8
  simp at a4 a8
  have b2 := cell_blk kB 2
  have b8 := cell_blk kB 8
  simp at b2 b8
  have fA := fz_blk kA
  have fB := fz_blk kB
  have hKc : (K : Int) ≤ (cd : Int) := by omega
  have hKn : (K : Int) ≤ (g.data.length : Int) := by omega
  unfold maxLen at hd2
  go_upto_region 5 with (fail)
  go_region
  have hadr : Rd .u8 w (.slice ad K cd) (g.data.take K) := hvd.take hKN
  have hbdr := hvd.cut K (g.data.length - K) g.data.length (by omega) (Nat.le_refl _)
  rw [List.take_of_length_le (show (g.data.drop K).length ≤ g.data.length - K by simp)] at hbdr
  generalize (if cd = K then ad else Option.map (fun x => x.add K) ad) = ab at *
  generalize hW : World.drew _ = W3
  have hmv : Mvs (fun k => k = A ∨ k = B) W2 W3 := by
    rw [← hW]
    exact (Mvs.tr (Mvs.set _ _ _ (.inl rfl)) (Mvs.set _ _ _ (.inr rfl))).tr (Mvs.ofExt (Ext.rfl' _).dr)
  have kA := set_oth (set_blk kA 8 (.slice ad K cd)) hAB 8 (.slice ab (g.data.length - K) (cd - K))
  have kB := set_blk (set_oth kB (Ne.symm hAB) 8 (.slice ad K cd)) 8 (.slice ab (g.data.length - K) (cd - K))
  have hh : ((W2.setCell ⟨A, 8, none⟩ (.slice ad K cd)).setCell ⟨B, 8, none⟩ (.slice ab (g.data.length - K) (cd - K))).heap = W3.heap := by rw [← hW]; rfl
  rw [hh] at kA kB
  clear hh
  have kg := hmv.keep kg (by omega)
  have hxW3 : Ext w1 W3 := hmv.ext hx2 (fun k hk => by omega)
  simp at kA kB
  clear hW hmv a4 a8 b2 b8 e8 fA fB hx2 hA2 hB2
  have a4 := cell_blk kA 4
  simp at a4
  have b2 := cell_blk kB 2
  simp at b2
  have fA := fz_blk kA
  have fB := fz_blk kB
  have hgf := HG.out.f
  have hgs := HG.out.seq
  have hfa := andNot1 g.f hgf
  obtain ⟨fa, hfe⟩ : ∃ fa, fa = g.f - g.f % 2 := ⟨_, rfl⟩
  rw [← hfe] at hfa
  have HFE := Lib.hid hfe
  have hfab : 0 ≤ fa ∧ fa ≤ 255 := by omega
  clear hfe
  have hwk : IntKind.u32.wrap (K : Int) = (K : Int) := by rw [IntKind.wrap_u32]; omega
  obtain ⟨sb, hsb⟩ : ∃ sb, IntKind.u32.wrap (g.seq + (K : Int)) = sb := ⟨_, rfl⟩
  have hsbb : 0 ≤ sb ∧ sb ≤ 4294967295 := by rw [← hsb, IntKind.wrap_u32]; omega
  go_upto_region 8 with (fail)
  generalize hW : World.setCell _ _ _ = W4
  have hmv : Mvs (fun k => k = A ∨ k = B) W3 W4 := by
    rw [← hW]
    exact Mvs.tr (Mvs.set _ _ _ (.inl rfl)) (Mvs.set _ _ _ (.inr rfl))
  have kA := set_oth (set_blk kA 4 (.int .u8 fa)) hAB 2 (.int .u32 sb)
  have kB := set_blk (set_oth kB (Ne.symm hAB) 4 (.int .u8 fa)) 2 (.int .u32 sb)
  rw [hW] at kA kB
  have kg := hmv.keep kg (by omega)
  have hx1 : Ext w1 W4 := hmv.ext hxW3 (fun k hk => by omega)
  have hxW := hxW1.tr hx1
  simp at kA kB
  clear hW hmv a4 b2 fA fB hxW3 hx1
  have hga : (Sg.mk g.sp g.dp g.seq g.ack fa g.win g.urg g.os (g.data.take K)).ok := ⟨HG.out.sp, HG.out.dp, HG.out.seq, HG.out.ack, hfab, HG.out.win, HG.out.urg, HG.out.os, HG.out.data.take K⟩
  have hgb : (Sg.mk g.sp g.dp sb g.ack g.f g.win g.urg g.os (g.data.drop K)).ok := ⟨HG.out.sp, HG.out.dp, hsbb, HG.out.ack, HG.out.f, HG.out.win, HG.out.urg, HG.out.os, HG.out.data.drop K⟩
  have hla : (g.data.take K).length = K := by rw [List.length_take]; omega
  have hlb : (g.data.drop K).length = g.data.length - K := List.length_drop
  have hfta : 20 + O.length + (g.data.take K).length ≤ 1480 := by omega
  have hftb : 20 + O.length + (g.data.drop K).length ≤ 1480 := by omega
  have hpa := fun (W : World) (h1 : RdO W (.slice ao g.os.length co) g.os) (h2 : Rd .u8 W (.slice ad K cd) (g.data.take K)) => tput_any s d (Sg.mk g.sp g.dp g.seq g.ack fa g.win g.urg g.os (g.data.take K)) _ _ W hga h1 h2 hs hd (by show (g.data.take K).length ≤ _; omega)
  have hpb := fun (W : World) (h1 : RdO W (.slice ao g.os.length co) g.os) (h2 : Rd .u8 W (.slice ab (g.data.length - K) (cd - K)) (g.data.drop K)) => tput_any s d (Sg.mk g.sp g.dp sb g.ack g.f g.win g.urg g.os (g.data.drop K)) _ _ W hgb h1 h2 hs hd (by show (g.data.drop K).length ≤ _; omega)
  have hpg := fun (W : World) (h1 : RdO W (.slice ao g.os.length co) g.os) (h2 : Rd .u8 W (.slice ad g.data.length cd) g.data) => tput_any s d g _ _ W HG.out h1 h2 hs hd (by omega)
  rw [tput_fit (g := (Sg.mk g.sp g.dp g.seq g.ack fa g.win g.urg g.os (g.data.take K))) ho (by show ¬ 1480 < 20 + O.length + (g.data.take K).length; omega)] at hpa
  rw [tput_fit (g := (Sg.mk g.sp g.dp sb g.ack g.f g.win g.urg g.os (g.data.drop K))) ho (by show ¬ 1480 < 20 + O.length + (g.data.drop K).length; omega)] at hpb
  rw [hT] at hpg
  have hta : Hid (tpar s d ((Sg.mk g.sp g.dp g.seq g.ack fa g.win g.urg g.os (g.data.take K)).lay O ((Sg.mk g.sp g.dp g.seq g.ack fa g.win g.urg g.os (g.data.take K)).field s d O)) = ((Sg.mk g.sp g.dp g.seq g.ack fa g.win g.urg g.os (g.data.take K)), 0)) := by unfold Hid; rw [tpar_lay hga hs hd hs hd ho hO hl4 h4 hfta, if_pos rfl]
  have htb : Hid (tpar s d ((Sg.mk g.sp g.dp sb g.ack g.f g.win g.urg g.os (g.data.drop K)).lay O ((Sg.mk g.sp g.dp sb g.ack g.f g.win g.urg g.os (g.data.drop K)).field s d O)) = ((Sg.mk g.sp g.dp sb g.ack g.f g.win g.urg g.os (g.data.drop K)), 0)) := by unfold Hid; rw [tpar_lay hgb hs hd hs hd ho hO hl4 h4 hftb, if_pos rfl]
  have hba : Hid (Byt ((Sg.mk g.sp g.dp g.seq g.ack fa g.win g.urg g.os (g.data.take K)).lay O ((Sg.mk g.sp g.dp g.seq g.ack fa g.win g.urg g.os (g.data.take K)).field s d O))) := lay_byt hga hO hl4 (field_bd hga hs hd hO hl4)
  have hbb : Hid (Byt ((Sg.mk g.sp g.dp sb g.ack g.f g.win g.urg g.os (g.data.drop K)).lay O ((Sg.mk g.sp g.dp sb g.ack g.f g.win g.urg g.os (g.data.drop K)).field s d O))) := lay_byt hgb hO hl4 (field_bd hgb hs hd hO hl4)
  have hna : ((Sg.mk g.sp g.dp g.seq g.ack fa g.win g.urg g.os (g.data.take K)).lay O ((Sg.mk g.sp g.dp g.seq g.ack fa g.win g.urg g.os (g.data.take K)).field s d O)).length = 20 + O.length + K := by rw [lay_len]; show 20 + O.length + (g.data.take K).length = _; omega
  have hnb : ((Sg.mk g.sp g.dp sb g.ack g.f g.win g.urg g.os (g.data.drop K)).lay O ((Sg.mk g.sp g.dp sb g.ack g.f g.win g.urg g.os (g.data.drop K)).field s d O)).length = 20 + O.length + (g.data.length - K) := by rw [lay_len]; show 20 + O.length + (g.data.drop K).length = _; omega
  have hng : (g.lay O (g.field s d O)).length = 20 + O.length + g.data.length := lay_len _ _ _
  have hsa : Hid (tsame (Sg.mk g.sp g.dp g.seq g.ack fa g.win g.urg g.os (g.data.take K)) (Sg.mk g.sp g.dp g.seq g.ack fa g.win g.urg g.os (g.data.take K)) = true) := tsame_refl _
  have hsbm : Hid (tsame (Sg.mk g.sp g.dp sb g.ack g.f g.win g.urg g.os (g.data.drop K)) (Sg.mk g.sp g.dp sb g.ack g.f g.win g.urg g.os (g.data.drop K)) = true) := tsame_refl _
  dsimp only [Sg.cells] at hpa hpb hpg
  generalize (Sg.mk g.sp g.dp g.seq g.ack fa g.win g.urg g.os (g.data.take K)).lay O ((Sg.mk g.sp g.dp g.seq g.ack fa g.win g.urg g.os (g.data.take K)).field s d O) = La at *
  generalize (Sg.mk g.sp g.dp sb g.ack g.f g.win g.urg g.os (g.data.drop K)).lay O ((Sg.mk g.sp g.dp sb g.ack g.f g.win g.urg g.os (g.data.drop K)).field s d O) = Lb at *
  generalize g.lay O (g.field s d O) = Lg at *
  have HPA := Lib.hid hpa
  have HPB := Lib.hid hpb
  have HPG := Lib.hid hpg
  have HNA := Lib.hid hna
  have HNB := Lib.hid hnb
  have HNG := Lib.hid hng
  have HLA := Lib.hid hla
  have HLB := Lib.hid hlb
  have HGA := Lib.hid hga
  clear hna hnb hng hla hlb
  have HGB := Lib.hid hgb
  clear hpa hpb hpg hga hgb hT hT2 hF hfta hftb hfa hwk ha2 hK hw1 hwK hN1 HMAY
  have a0 := cell_blk kA 0
  have a1 := cell_blk kA 1
  have a2 := cell_blk kA 2
  have a3 := cell_blk kA 3
  have a4 := cell_blk kA 4
  have a5 := cell_blk kA 5
  have a6 := cell_blk kA 6
  have a7 := cell_blk kA 7
  have a8 := cell_blk kA 8
  simp at a0 a1 a2 a3 a4 a5 a6 a7 a8
  have b0 := cell_blk kB 0
  have b1 := cell_blk kB 1
  have b2 := cell_blk kB 2
  have b3 := cell_blk kB 3
  have b4 := cell_blk kB 4
  have b5 := cell_blk kB 5
  have b6 := cell_blk kB 6
  have b7 := cell_blk kB 7
  have b8 := cell_blk kB 8
  simp at b0 b1 b2 b3 b4 b5 b6 b7 b8
  go_wp2_with fail
  refine (HPA.out _ (hvo.ext hxW) (hadr.ext hxW)).mono ?_
  rintro e w5 ⟨u, rfl, hu, hx5⟩
  have hura := hu.rd
  obtain ⟨au, cu, rfl, -, -, -⟩ := id hura
  clear hu b0 b1 b2 b3 b4 b5 b6 b7 b8
  have kB5 := hx5.block kB
  have b0 := cell_blk kB5 0
  have b1 := cell_blk kB5 1
  have b2 := cell_blk kB5 2
  have b3 := cell_blk kB5 3
  have b4 := cell_blk kB5 4
  have b5 := cell_blk kB5 5
  have b6 := cell_blk kB5 6
  have b7 := cell_blk kB5 7
  have b8 := cell_blk kB5 8
  simp at b0 b1 b2 b3 b4 b5 b6 b7 b8
  go_wp2_with fail
  refine (HPB.out _ (hvo.ext (hxW.tr hx5)) (hbdr.ext (hxW.tr hx5))).mono ?_
  rintro e w6 ⟨u, rfl, hu, hx6⟩
  have hurb := hu.rd
  obtain ⟨bu, du, rfl, -, -, -⟩ := id hurb
  clear hu kB5 a0 a1 a2 a3 a4 a5 a6 a7 a8 b0 b1 b2 b3 b4 b5 b6 b7 b8
  go_wp2_with fail
  refine (tparse_any s d _ La _ (hura.ext hx6) hba.out hs hd (by have := HNA.out; omega)).mono ?_
  rw [hta.out]
  rintro e w7 ⟨vo1, vd1, rfl, hfo1, hfr1, hx7⟩
  have hfo1 := hfo1.rdo
  have hfr1 := hfr1.rd
  dsimp only [Sg.cells] at hfo1 hfr1 ⊢
  obtain ⟨ao1, co1, rfl⟩ := hfo1.shape
  obtain ⟨ad1, cd1, rfl, -, -, -⟩ := id hfr1
  rw [HLA.out] at hfr1 ⊢
  go_upto_region 11 with (fail)
  generalize hV : World.alloc w7 _ = V
  have hx8 : Ext w7 V := by rw [← hV]; exact Ext.new _ _
  have kC : V.heap[w7.heap.size]? = some (.cells #[.int .u16 g.sp, .int .u16 g.dp, .int .u32 g.seq, .int .u32 g.ack, .int .u8 fa, .int .u16 g.win, .int .u16 g.urg, .slice ao1 g.os.length co1, .slice ad1 K cd1] 27) := by rw [← hV]; exact heap_alloc_new w7 _
  clear hV
  generalize w7.heap.size = C at *
  go_wp2_with fail
  refine (tparse_any s d _ Lb _ (hurb.ext (hx7.tr hx8)) hbb.out hs hd (by have := HNB.out; omega)).mono ?_
  rw [htb.out]
  rintro e w9 ⟨vo2, vd2, rfl, hfo2, hfr2, hx9⟩
  have hfo2 := hfo2.rdo
  have hfr2 := hfr2.rd
  dsimp only [Sg.cells] at hfo2 hfr2 ⊢
  obtain ⟨ao2, co2, rfl⟩ := hfo2.shape
  obtain ⟨ad2, cd2, rfl, -, -, -⟩ := id hfr2
  rw [HLB.out] at hfr2 ⊢
  go_upto_region 12 with (fail)
  generalize hV : World.alloc w9 _ = V2
  have hx10 : Ext w9 V2 := by rw [← hV]; exact Ext.new _ _
  have kD : V2.heap[w9.heap.size]? = some (.cells #[.int .u16 g.sp, .int .u16 g.dp, .int .u32 sb, .int .u32 g.ack, .int .u8 g.f, .int .u16 g.win, .int .u16 g.urg, .slice ao2 g.os.length co2, .slice ad2 (g.data.length - K) cd2] 27) := by rw [← hV]; exact heap_alloc_new w9 _
  clear hV
  generalize w9.heap.size = D at *
  have hx48 := hx5.tr (hx6.tr (hx7.tr hx8))
  have hx8a := hx9.tr hx10
  have hx4a := hx48.tr hx8a
  have kA := hx4a.block kA
  have kB := hx4a.block kB
  have kg := hx4a.block kg
  have kC := hx8a.block kC
  have hfo1 := hfo1.ext (hx8.tr hx8a)
  have hfr1 := hfr1.ext (hx8.tr hx8a)
  have hfo2 := hfo2.ext hx10
  have hfr2 := hfr2.ext hx10
  have hxW := hxW.tr hx4a
  clear hx5 hx6 hx7 hx8 hx9 hx10 hx48 hx8a hx4a hura hurb
  have a0 := cell_blk kA 0
  have a1 := cell_blk kA 1
  have a2 := cell_blk kA 2
  have a3 := cell_blk kA 3
  have a4 := cell_blk kA 4
  have a5 := cell_blk kA 5
  have a6 := cell_blk kA 6
  have a7 := cell_blk kA 7
  have a8 := cell_blk kA 8
  simp at a0 a1 a2 a3 a4 a5 a6 a7 a8
  have c0 := cell_blk kC 0
  have c1 := cell_blk kC 1
  have c2 := cell_blk kC 2
  have c3 := cell_blk kC 3
  have c4 := cell_blk kC 4
  have c5 := cell_blk kC 5
  have c6 := cell_blk kC 6
  have c7 := cell_blk kC 7
  have c8 := cell_blk kC 8
  simp at c0 c1 c2 c3 c4 c5 c6 c7 c8
  go_wp2_with fail
  refine (tsame_any (Sg.mk g.sp g.dp g.seq g.ack fa g.win g.urg g.os (g.data.take K)) (Sg.mk g.sp g.dp g.seq g.ack fa g.win g.urg g.os (g.data.take K)) _ _ _ _ _ HGA.out HGA.out hfo1 hfr1 (hvo.ext hxW) (hadr.ext hxW)).mono ?_
  rw [hsa.out]
  rintro e w11 ⟨rfl, hx11⟩
  have kA := hx11.block kA
  have kB := hx11.block kB
  have kg := hx11.block kg
  have kC := hx11.block kC
  have kD := hx11.block kD
  have hfr1 := hfr1.ext hx11
  have hfo2 := hfo2.ext hx11
  have hfr2 := hfr2.ext hx11
  have hxW := hxW.tr hx11
  clear hx11 hfo1 a0 a1 a2 a3 a4 a5 a6 a7 a8 c0 c1 c2 c3 c4 c5 c6 c7 c8
  have b0 := cell_blk kB 0
  have b1 := cell_blk kB 1
  have b2 := cell_blk kB 2
  have b3 := cell_blk kB 3
  have b4 := cell_blk kB 4
  have b5 := cell_blk kB 5
  have b6 := cell_blk kB 6
  have b7 := cell_blk kB 7
  have b8 := cell_blk kB 8
  simp at b0 b1 b2 b3 b4 b5 b6 b7 b8
  have d0 := cell_blk kD 0
  have d1 := cell_blk kD 1
  have d2 := cell_blk kD 2
  have d3 := cell_blk kD 3
  have d4 := cell_blk kD 4
  have d5 := cell_blk kD 5
  have d6 := cell_blk kD 6
  have d7 := cell_blk kD 7
  have d8 := cell_blk kD 8
  simp at d0 d1 d2 d3 d4 d5 d6 d7 d8
  go_wp2_with fail
  refine (tsame_any (Sg.mk g.sp g.dp sb g.ack g.f g.win g.urg g.os (g.data.drop K)) (Sg.mk g.sp g.dp sb g.ack g.f g.win g.urg g.os (g.data.drop K)) _ _ _ _ _ HGB.out HGB.out hfo2 hfr2 (hvo.ext hxW) (hbdr.ext hxW)).mono ?_
  rw [hsbm.out]
  rintro e w12 ⟨rfl, hx12⟩
  have kA := hx12.block kA
  have kB := hx12.block kB
  have kg := hx12.block kg
  have kC := hx12.block kC
  have kD := hx12.block kD
  have hfr1 := hfr1.ext hx12
  have hfr2 := hfr2.ext hx12
  have hxW := hxW.tr hx12
  clear hx12 hfo2 b0 b1 b2 b3 b4 b5 b6 b7 b8 d0 d1 d2 d3 d4 d5 d6 d7 d8
  have e0 := cell_blk kg 0
  have e1 := cell_blk kg 1
  have e2 := cell_blk kg 2
  have e3 := cell_blk kg 3
  have e4 := cell_blk kg 4
  have e5 := cell_blk kg 5
  have e6 := cell_blk kg 6
  have e7 := cell_blk kg 7
  have e8 := cell_blk kg 8
  simp at e0 e1 e2 e3 e4 e5 e6 e7 e8
  go_wp2_with fail
  refine (HPG.out _ (hvo.ext hxW) (hvd.ext hxW)).mono ?_
  rintro e w13 ⟨u, rfl, hu, hx13⟩
  obtain ⟨gu, gc, rfl, -, -, -⟩ := id hu.rd
  have kA := hx13.block kA
  have kB := hx13.block kB
  have kg := hx13.block kg
  have kC := hx13.block kC
  have kD := hx13.block kD
  have hfr1 := hfr1.ext hx13
  have hfr2 := hfr2.ext hx13
  have hxW := hxW.tr hx13
  have hna := HNA.out
  have hnb := HNB.out
  have hng := HNG.out
  have hO40 : O.length ≤ 40 := hl4
  have q1 : IntKind.i64.wrap ((Lg.length : Int) - (g.data.length : Int)) = 20 + (O.length : Int) := by rw [IntWalk.i64_in _ (by omega)]; omega
  have q2 : IntKind.i64.wrap ((La.length : Int) + (Lb.length : Int)) = 40 + 2 * (O.length : Int) + (g.data.length : Int) := by rw [IntWalk.i64_in _ (by omega)]; omega
  have q3 : IntKind.i64.wrap ((Lg.length : Int) + (20 + (O.length : Int))) = 40 + 2 * (O.length : Int) + (g.data.length : Int) := by rw [IntWalk.i64_in _ (by omega)]; omega
  clear hx13 hu hna hnb hng e0 e1 e2 e3 e4 e5 e6 e7 e8
  generalize hH : 20 + (O.length : Int) = H at *
  have HH := Lib.hid hH
  clear hH
  generalize 40 + 2 * (O.length : Int) + (g.data.length : Int) = S1 at *
  have e0 := cell_blk kg 0
  have e1 := cell_blk kg 1
  have e2 := cell_blk kg 2
  have e3 := cell_blk kg 3
  have e4 := cell_blk kg 4
  have e5 := cell_blk kg 5
  have e6 := cell_blk kg 6
  have e7 := cell_blk kg 7
  have e8 := cell_blk kg 8
  simp at e0 e1 e2 e3 e4 e5 e6 e7 e8
  go_upto_region 18 with (fail)
  clear q1 q2 q3
  obtain ⟨m, hme⟩ : ∃ m : Int, m = if fl g.f 1 then 1 else 0 := ⟨_, rfl⟩
  have hmb : 0 ≤ m ∧ m ≤ 1 := by rw [hme]; split <;> decide
  have hfb := HG.out.f
  have hfa2 : fl fa 2 = false := by
    have h := hf2
    rw [HFE.out]
    unfold fl at h ⊢
    simp only [decide_eq_false_iff_not] at h ⊢
    omega
  have hfa1 : fl fa 1 = false := by
    rw [HFE.out]
    unfold fl
    simp only [decide_eq_false_iff_not]
    omega
  have hlA : Hid (sLen (K : Int) fa = K) := by unfold Hid sLen; rw [hfa2, hfa1]; simp only [Bool.false_eq_true, if_false]; omega
  have hlB : Hid (sLen ((g.data.length - K : Nat) : Int) g.f = ((g.data.length - K : Nat) : Int) + m) := by
    unfold Hid sLen; rw [hf2, ← hme]; simp only [Bool.false_eq_true, if_false]; omega
  have hlS : Hid (sLen (g.data.length : Int) g.f = (g.data.length : Int) + m) := by
    unfold Hid sLen; rw [hf2, ← hme]; simp only [Bool.false_eq_true, if_false]; omega
  have hsum : IntKind.u32.wrap ((K : Int) + (((g.data.length - K : Nat) : Int) + m)) = (g.data.length : Int) + m := by rw [IntKind.wrap_u32]; omega
  have hcat : strOfNums (g.data.take K) ++ strOfNums (g.data.drop K) = strOfNums g.data := by rw [str_app, List.take_append_drop]
  have hfab : 0 ≤ fa ∧ fa ≤ 255 := hfab
  have HSUM := Lib.hid hsum
  have HCAT := Lib.hid hcat
  have HSZ : Hid (¬ 9223372036854775807 < (strOfNums (g.data.take K)).size + (strOfNums (g.data.drop K)).size) := by
    unfold Hid
    rw [strOfNums_size, strOfNums_size, HLA.out, HLB.out]
    omega
  have HSB := Lib.hid hsb
  have hvdW := hvd.ext hxW
  clear hme hmb hsum hcat hsb hfa1 hfa2 hf2 hfb
  obtain ⟨lB, hlBe⟩ : ∃ lB : Int, lB = ((g.data.length - K : Nat) : Int) + m := ⟨_, rfl⟩
  obtain ⟨lS, hlSe⟩ : ∃ lS : Int, lS = (g.data.length : Int) + m := ⟨_, rfl⟩
  rw [← hlBe] at hlB HSUM
  rw [← hlSe] at hlS HSUM
  clear hlBe hlSe
  have a0 := cell_blk kA 0
  have a1 := cell_blk kA 1
  have a2 := cell_blk kA 2
  have a3 := cell_blk kA 3
  have a4 := cell_blk kA 4
  have a5 := cell_blk kA 5
  have a6 := cell_blk kA 6
  have a7 := cell_blk kA 7
  have a8 := cell_blk kA 8
  simp at a0 a1 a2 a3 a4 a5 a6 a7 a8
  have b0 := cell_blk kB 0
  have b1 := cell_blk kB 1
  have b2 := cell_blk kB 2
  have b3 := cell_blk kB 3
  have b4 := cell_blk kB 4
  have b5 := cell_blk kB 5
  have b6 := cell_blk kB 6
  have b7 := cell_blk kB 7
  have b8 := cell_blk kB 8
  simp at b0 b1 b2 b3 b4 b5 b6 b7 b8
  have c0 := cell_blk kC 0
  have c1 := cell_blk kC 1
  have c2 := cell_blk kC 2
  have c3 := cell_blk kC 3
  have c4 := cell_blk kC 4
  have c5 := cell_blk kC 5
  have c6 := cell_blk kC 6
  have c7 := cell_blk kC 7
  have c8 := cell_blk kC 8
  simp at c0 c1 c2 c3 c4 c5 c6 c7 c8
  have d2 := cell_blk kD 2
  have d8 := cell_blk kD 8
  simp at d2 d8
  refine wp_region_grow [(1, is (.int .u32 (K : Int))), (3, is (.int .u32 lB)), (6, is (.int .u32 lS)), (14, is (.int .u32 (K : Int))), (32, is (.bool true))] (lasts_is (lasts_is (lasts_is (lasts_is (lasts_is (lasts_nil)))))) (by kernel_rfl) (by kernel_rfl) ?_
  iterate 1
    apply wpL_none rfl rfl
    · intro w' hw' hn'; have a0 := Ext.cell hw' a0; have a1 := Ext.cell hw' a1; have a2 := Ext.cell hw' a2; have a3 := Ext.cell hw' a3; have a4 := Ext.cell hw' a4; have a5 := Ext.cell hw' a5; have a6 := Ext.cell hw' a6; have a7 := Ext.cell hw' a7; have a8 := Ext.cell hw' a8; go_simp; exact rfl
    intro K hK; go_simp; refine hK _ _ ?_; clear hK K
  apply wpL_some rfl rfl
  · intro w' hw' hn'
    go_simp
    refine ⟨Ext.rfl' _, ?_⟩
    refine (length_any _ _ _ _ _ _ _ fa _ K _ _ hfab).mono ?_
    rw [hlA.out]
    rintro e w2 ⟨rfl, hx⟩
    exact ⟨_, rfl, hx, rfl⟩
  intro v w' hw' hD' hv
  obtain rfl : v = _ := hv
  clear hw' hD' w'
  intro K hK; go_simp; refine hK _ _ ?_; clear hK K
  iterate 1
    apply wpL_none rfl rfl
    · intro w' hw' hn'; have b0 := Ext.cell hw' b0; have b1 := Ext.cell hw' b1; have b2 := Ext.cell hw' b2; have b3 := Ext.cell hw' b3; have b4 := Ext.cell hw' b4; have b5 := Ext.cell hw' b5; have b6 := Ext.cell hw' b6; have b7 := Ext.cell hw' b7; have b8 := Ext.cell hw' b8; go_simp; exact rfl
    intro K hK; go_simp; refine hK _ _ ?_; clear hK K
  apply wpL_some rfl rfl
  · intro w' hw' hn'
    go_simp
    refine ⟨Ext.rfl' _, ?_⟩
    refine (length_any _ _ _ _ _ _ _ g.f _ (g.data.length - K) _ _ hgf).mono ?_
    rw [hlB.out]
    rintro e w2 ⟨rfl, hx⟩
    exact ⟨_, rfl, hx, rfl⟩
  intro v w' hw' hD' hv
  obtain rfl : v = _ := hv
  clear hw' hD' w'
  intro K hK; go_simp; refine hK _ _ ?_; clear hK K
  have hsum := HSUM.out
  iterate 1
    apply wpL_none rfl rfl
    · intro w' hw' hn'; go_simp; exact rfl
    intro K hK; go_simp; refine hK _ _ ?_; clear hK K
  clear hsum
  iterate 1
    apply wpL_none rfl rfl
    · intro w' hw' hn'; have e0 := Ext.cell hw' e0; have e1 := Ext.cell hw' e1; have e2 := Ext.cell hw' e2; have e3 := Ext.cell hw' e3; have e4 := Ext.cell hw' e4; have e5 := Ext.cell hw' e5; have e6 := Ext.cell hw' e6; have e7 := Ext.cell hw' e7; have e8 := Ext.cell hw' e8; go_simp; exact rfl
    intro K hK; go_simp; refine hK _ _ ?_; clear hK K
  apply wpL_some rfl rfl
  · intro w' hw' hn'
    go_simp
    refine ⟨Ext.rfl' _, ?_⟩
    refine (length_any _ _ _ _ _ _ _ g.f _ g.data.length _ _ hgf).mono ?_
    rw [hlS.out]
    rintro e w2 ⟨rfl, hx⟩
    exact ⟨_, rfl, hx, rfl⟩
  intro v w' hw' hD' hv
  obtain rfl : v = _ := hv
  clear hw' hD' w'
  intro K hK; go_simp; refine hK _ _ ?_; clear hK K
  iterate 3
    apply wpL_none rfl rfl
    · intro w' hw' hn'; go_simp; exact rfl
    intro K hK; go_simp; refine hK _ _ ?_; clear hK K
  iterate 1
    apply wpL_none rfl rfl
    · intro w' hw' hn'; have d2 := Ext.cell hw' d2; go_simp; exact rfl
    intro K hK; go_simp; refine hK _ _ ?_; clear hK K
  iterate 1
    apply wpL_none rfl rfl
    · intro w' hw' hn'; go_simp; exact rfl
    intro K hK; go_simp; refine hK _ _ ?_; clear hK K
  iterate 1
    apply wpL_none rfl rfl
    · intro w' hw' hn'; have e2 := Ext.cell hw' e2; go_simp; exact rfl
    intro K hK; go_simp; refine hK _ _ ?_; clear hK K
  iterate 1
    apply wpL_none rfl rfl
    · intro w' hw' hn'; have c0 := Ext.cell hw' c0; have c1 := Ext.cell hw' c1; have c2 := Ext.cell hw' c2; have c3 := Ext.cell hw' c3; have c4 := Ext.cell hw' c4; have c5 := Ext.cell hw' c5; have c6 := Ext.cell hw' c6; have c7 := Ext.cell hw' c7; have c8 := Ext.cell hw' c8; go_simp; exact rfl
    intro K hK; go_simp; refine hK _ _ ?_; clear hK K
  apply wpL_some rfl rfl
  · intro w' hw' hn'
    go_simp
    refine ⟨Ext.rfl' _, ?_⟩
    refine (length_any _ _ _ _ _ _ _ fa _ K _ _ hfab).mono ?_
    rw [hlA.out]
    rintro e w2 ⟨rfl, hx⟩
    exact ⟨_, rfl, hx, rfl⟩
  intro v w' hw' hD' hv
  obtain rfl : v = _ := hv
  clear hw' hD' w'
  intro K hK; go_simp; refine hK _ _ ?_; clear hK K
  have hsb := HSB.out
  iterate 1
    apply wpL_none rfl rfl
    · intro w' hw' hn'; go_simp; exact rfl
    intro K hK; go_simp; refine hK _ _ ?_; clear hK K
  clear hsb
  iterate 4
    apply wpL_none rfl rfl
    · intro w' hw' hn'; go_simp; exact rfl
    intro K hK; go_simp; refine hK _ _ ?_; clear hK K
  iterate 1
    apply wpL_none rfl rfl
    · intro w' hw' hn'; have c8 := Ext.cell hw' c8; go_simp; exact rfl
    intro K hK; go_simp; refine hK _ _ ?_; clear hK K
  apply wpL_none rfl rfl
  · intro w' hw' hn'
    have hc := run_conv_rd (P := Try.prog) (src := 25) (e := 5) (dst := 9) (by rfl) (by rfl) (by rfl) (hfr1.ext hw')
    go_simp
    exact rfl
  intro K hK; go_simp; refine hK _ _ ?_; clear hK K
  iterate 1
    apply wpL_none rfl rfl
    · intro w' hw' hn'; go_simp; exact rfl
    intro K hK; go_simp; refine hK _ _ ?_; clear hK K
  iterate 1
    apply wpL_none rfl rfl
    · intro w' hw' hn'; have d8 := Ext.cell hw' d8; go_simp; exact rfl
    intro K hK; go_simp; refine hK _ _ ?_; clear hK K
  apply wpL_none rfl rfl
  · intro w' hw' hn'
    have hc := run_conv_rd (P := Try.prog) (src := 25) (e := 5) (dst := 9) (by rfl) (by rfl) (by rfl) (hfr2.ext hw')
    go_simp
    exact rfl
  intro K hK; go_simp; refine hK _ _ ?_; clear hK K
  apply wpL_none rfl rfl
  · intro w' hw' hn'
    have hcat := HCAT.out
    have hsz := HSZ.out
    go_simp
    exact rfl
  intro K hK; go_simp; refine hK _ _ ?_; clear hK K
  iterate 1
    apply wpL_none rfl rfl
    · intro w' hw' hn'; go_simp; exact rfl
    intro K hK; go_simp; refine hK _ _ ?_; clear hK K
  iterate 1
    apply wpL_none rfl rfl
    · intro w' hw' hn'; have e8 := Ext.cell hw' e8; go_simp; exact rfl
    intro K hK; go_simp; refine hK _ _ ?_; clear hK K
  apply wpL_none rfl rfl
  · intro w' hw' hn'
    have hc := run_conv_rd (P := Try.prog) (src := 25) (e := 5) (dst := 9) (by rfl) (by rfl) (by rfl) (hvdW.ext hw')
    go_simp
    exact rfl
  intro K hK; go_simp; refine hK _ _ ?_; clear hK K
  iterate 3
    apply wpL_none rfl rfl
    · intro w' hw' hn'; go_simp; exact rfl
    intro K hK; go_simp; refine hK _ _ ?_; clear hK K
  apply wpL_some rfl rfl
  · intro w' hw' hn'
    go_simp
    refine ⟨Ext.rfl' _, ?_⟩
    refine (wakes6_any _).mono ?_
    rintro e w2 ⟨rfl, hx⟩
    exact ⟨_, rfl, hx, rfl⟩
  intro v w' hw' hD' hv
  obtain rfl : v = _ := hv
  clear hw' hD' w'
  intro K hK; go_simp; refine hK _ _ ?_; clear hK K
  iterate 2
    apply wpL_none rfl rfl
    · intro w' hw' hn'; go_simp; exact rfl
    intro K hK; go_simp; refine hK _ _ ?_; clear hK K
  refine wpL_nil ?_
  intro w' hw' _
  go_wp2_with fail
  go_ret
  exact ⟨rfl, hxW.tr hw'⟩
end Go.Proofs.Ytjaffcbadgpolaa.tcpParts

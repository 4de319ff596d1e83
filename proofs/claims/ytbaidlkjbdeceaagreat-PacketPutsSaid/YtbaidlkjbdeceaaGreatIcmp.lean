/-
  Proved here: what icmp.Put and icmp.Same compute, for every message; and the document's Same of two messages.
-/
import Derived.Test.YtbaidlkjbdeceaaGreatIp
namespace Go.Proofs.YtbaidlkjbdeceaaGreat
set_option maxRecDepth 200000
open Go.ChangeShapes Go.WideShapes Go.ChangeAt Go.RowKit Go.Cul Go.Loose
set_option linter.unusedVariables false
attribute [local go_sem] Loose.Still Loose.Upon Loose.vUpon First.pUpon

/-- A message. -/
structure Ms where
  ty : Int
  cd : Int
  rest : Int
  data : List Int
structure Ms.ok (m : Ms) : Prop where
  ty : 0 ≤ m.ty ∧ m.ty ≤ 255
  cd : 0 ≤ m.cd ∧ m.cd ≤ 255
  rest : 0 ≤ m.rest ∧ m.rest ≤ 4294967295
  data : Byt m.data
abbrev Ms.cells (m : Ms) (vd : Value) : Array Value := #[.int .u8 m.ty, .int .u8 m.cd, .int .u32 m.rest, vd]
def Ms.none : Ms := ⟨0, 0, 0, []⟩
def Ms.lay (m : Ms) (f : Int) : List Int := [m.ty, m.cd] ++ by2 f ++ by4 m.rest ++ m.data
def Ms.field (m : Ms) : Int := 65535 - csum (m.lay 0)
/-- A message's bytes; the error. -/
def mput (m : Ms) : List Int × Int := if 1472 < m.data.length then ([], 3) else (m.lay m.field, 0)
theorem Ms.lay_len (m : Ms) (f : Int) : (m.lay f).length = 8 + m.data.length := by
  simp [Ms.lay, by2, by4]; omega
theorem Ms.lay_byt {m : Ms} (h : m.ok) {f : Int} (hf : 0 ≤ f ∧ f ≤ 65535) : Byt (m.lay f) := by
  unfold Ms.lay
  refine ((Byt.app ?_ (by2_byt f hf)).app (by4_byt _ h.rest)).app h.data
  intro x hx
  simp only [List.mem_cons, List.not_mem_nil, or_false] at hx
  rcases hx with rfl | rfl
  · exact h.ty
  · exact h.cd

set_option maxHeartbeats 2000000 in
set_option maxRecDepth 100000 in
theorem mput_any (m : Ms) (vd : Value) (w : World) (hm : m.ok) (hvd : Rd .u8 w vd m.data) (hl : m.data.length ≤ 140737488351232) :
    Calls Tryz.prog 41 #[.agg (m.cells vd)] w fun e w' => ∃ u, e = .returned (.tuple #[u, .int .i64 (mput m).2]) ∧ Own w' w.heap.size 5 .u8 u (mput m).1 ∧ Ext w w' := by
  obtain ⟨ad, cd', rfl, hd1, hd2, -⟩ := id hvd
  unfold maxLen at hd2
  by_cases hlong : 1472 < m.data.length
  · have hU : Hid (mput m = ([], 3)) := by unfold mput; rw [if_pos hlong]; exact Lib.hid rfl
    have hlI : (1472 : Int) < (m.data.length : Int) := by omega
    obtain ⟨ty, cd, rest, data⟩ := m
    dsimp only [Ms.cells] at *
    go_enter Tryz.func41, Tryz.ntmps41
    go_wp2_with fail
    go_ret2
    rw [hU.out]
    exact ⟨_, rfl, Own.nil _ _ _ _, Ext.new _ _⟩
  have hU : Hid (mput m = (m.lay m.field, 0)) := by unfold mput; rw [if_neg hlong]; exact Lib.hid rfl
  have hlI : ¬ (1472 : Int) < (m.data.length : Int) := by omega
  have HLB := Lib.hid (Ms.lay_byt hm (f := 0) (by omega))
  have HLN := Lib.hid (m.lay_len 0)
  have HF : Hid (m.field = 65535 - csum (m.lay 0)) := rfl
  have HLAY : Hid (∀ f, m.lay f = [m.ty, m.cd] ++ by2 f ++ by4 m.rest ++ m.data) := fun f => rfl
  generalize m.field = FLD at *
  generalize m.lay = LAY at *
  generalize mput m = MP at *
  obtain ⟨ty, cd, rest, data⟩ := m
  obtain ⟨gty, gcd, grest, gdata⟩ := hm
  dsimp only [Ms.cells] at *
  have HV := Lib.hid hvd
  clear hvd gdata hlong
  have hx0 := Ext.new w (.cells #[.int .u8 ty, .int .u8 cd, .int .u32 rest, .slice ad data.length cd'] 33)
  have kh := heap_alloc_new w (.cells #[.int .u8 ty, .int .u8 cd, .int .u32 rest, .slice ad data.length cd'] 33)
  go_enter Tryz.func41, Tryz.ntmps41
  go_upto_region 1 with (fail)
  generalize hW : World.alloc w _ = W at *
  clear hW
  have e0 := cell_blk kh 0
  have e1 := cell_blk kh 1
  have e2 := cell_blk kh 2
  have e3 := cell_blk kh 3
  simp at e0 e1 e2 e3
  have e2 := fun (o : Obj) => (Ext.new W o).cell e2
  go_wp2_with fail
  refine (wu32_any _ [ty, cd, 0, 0] rest _ (rd_new .u8 _ _ _ _ rfl rfl rfl rfl (by simp [maxLen])) (by simp) grest).mono ?_
  rintro e w2 ⟨u2, rfl, hu2, hx2⟩
  have hx12 : Ext W w2 := (Ext.new _ _).tr hx2
  obtain ⟨a2, n2, c2, rfl⟩ := hu2.rd.shape
  have kh2 := hx12.block kh
  have hx02 := hx0.tr hx12
  have hL8 : ([ty, cd, 0, 0] ++ by4 rest).length = 8 := rfl
  generalize hLx : [ty, cd, 0, 0] ++ by4 rest = L at *
  have HLX := Lib.hid hLx
  have HL8 := Lib.hid hL8
  clear e0 e1 e2 e3 hx2 kh hLx hL8
  have e3 := cell_blk kh2 3
  simp at e3
  have hu2 := hu2.low (base' := w.heap.size) (by have := hx0.size; simp; omega)
  go_upto_region 5 with (at_builtin; refine wpList_app isU8 rfl (.tmp 17) (.tmp 19) rfl w.heap.size _ L rfl hu2 _ data rfl (HV.out.ext hx02) (by rw [HL8.out]; omega) (by rw [HL8.out]; unfold maxLen; omega) hx02.size ?_; intro v10 w10 hown10 hg10 hat10; obtain ⟨g, cap, rfl, hg1, hg2, -, -, hc1, hc2, -⟩ := hown10.open (by rw [List.length_append, HL8.out]; omega))
  have hx010 : Ext w w10 := hu2.below hg10 hx02 hx02.size
  have hMO : L ++ data = LAY 0 := by
    rw [HLAY.out 0, ← HLX.out]
    simp [by2]
  have hMF : ∀ F, (L ++ data).take 2 ++ by2 F ++ (L ++ data).drop 4 = LAY F := fun F => by
    rw [HLAY.out F, ← HLX.out]
    simp [by2, by4]
  have HMF := Lib.hid hMF
  have hMl : (L ++ data).length = 8 + data.length := by rw [List.length_append, HL8.out]
  rw [hMl] at hc1 hown10
  simp only [HL8.out]
  rw [hMO] at hown10 HMF
  have hLB := HLB.out
  have hLN := HLN.out
  have hFC : 65535 - csum (LAY 0) = FLD := by rw [HF.out]
  obtain ⟨N, hNN⟩ : ∃ N, 8 + data.length = N := ⟨_, rfl⟩
  rw [hNN] at hown10 hc1 hLN ⊢
  generalize LAY 0 = LY at *
  have HLB := Lib.hid hLB
  have HLN := Lib.hid hLN
  have HFC := Lib.hid hFC
  have hN20 : 8 ≤ N ∧ N ≤ 1480 := by omega
  unfold maxLen at hc2
  clear hMF hMO hMl hLB hLN hFC hu2 hg10 hat10 e3 kh2 HLX HLAY HF
  have ho10 := hown10.rd
  have hN10 : (2 : Int) ≤ (N : Int) := by omega
  have hc10 : ¬ (cap = 2) := by omega
  have hcb := csum_bd HLB.out
  generalize hcs : csum LY = C at *
  have HCS := Lib.hid hcs
  clear hcs
  refine wp_region_tail 6 [(3, fun v w => Rds .u8 w v [LY]), (4, is (.int .u16 (65535 - C))), (5, fun v w => Rd .u8 w v (by2 (65535 - C)))] ?_ (by kernel_rfl) (by kernel_rfl) (by kernel_rfl) ?_
  · exact lasts_cons (fun _ _ _ hx h => Rds.ext h hx) (lasts_is (lasts_cons (fun _ _ _ hx h => Rd.ext h hx) lasts_nil))
  simp only [List.take, List.drop]
  iterate 3
    apply wpL_none rfl rfl
    · intro w' hw' hn'; go_simp; exact rfl
    intro K hK; go_simp; refine hK _ _ ?_; clear hK K
  apply wpL_some rfl rfl
  · intro w' hw' hn'
    go_simp
    exact ⟨Ext.new _ _, rds_one (ho10.ext hw') rfl⟩
  intro b2 w' hw' hD' hv
  clear hv hw' hD' w'
  intro K hK; go_simp; refine hK _ _ ?_; clear hK K
  apply wpL_some rfl rfl
  · intro w' hw' hn'
    have hr : Rds .u8 w' b2 [LY] := hn' ⟨3, .data⟩ (by simp) rfl
    go_simp
    refine ⟨Ext.rfl' _, ?_⟩
    refine (field_any _ _ _ hr ?_ ?_).mono ?_
    · intro x hx
      simp only [List.mem_cons, List.not_mem_nil, or_false] at hx
      subst hx
      exact HLB.out
    · have := HLN.out
      simp only [List.flatten_cons, List.flatten_nil, List.append_nil]
      omega
    rw [show [LY].flatten = LY from by simp, HCS.out]
    rintro e w2 ⟨rfl, hx⟩
    exact ⟨_, rfl, hx, by simp [Loose.is]⟩
  intro v w' hw' hD' hv
  obtain rfl : v = _ := hv
  clear hw' hD' w'
  intro K hK; go_simp; refine hK _ _ ?_; clear hK K
  apply wpL_some rfl rfl
  · intro w' hw' hn'
    go_simp
    refine ⟨Ext.rfl' _, ?_⟩
    refine (wu16_any _ [] (65535 - C) _ (Rd.nil _ _) (by simp) (by omega)).mono ?_
    rintro e w2 ⟨u, rfl, ho, hx⟩
    exact ⟨u, rfl, hx, ho.rd⟩
  intro v10 w' hw' hD' hv
  clear hv hw' hD' w'
  intro K hK; go_simp; refine hK _ _ ?_; clear hK K
  refine wpL_nil ?_
  intro w' hw' hD'
  have hr : Rd .u8 w' v10 (by2 (65535 - C)) := by have := hD' 5; simpa [Loose.upd] using this
  apply wpVL_step rfl
  intro K hK
  refine vupon_copyI isU8 (.tmp 22) (.tmp 26) (by rfl) w.heap.size g N cap LY (hown10.kept hw') 2 (N - 2) (cap - 2) (by rfl) v10 _ (by rfl) hr (by simp [by2]) (by simp [by2]; omega) (by have := HLN.out; omega) (fun v11 w8 q1 q2 => ?_)
  have hx8 : Ext w w8 := (q2.mono (S' := fun j => j = g) (fun _ _ h => h)).ext (Ext.tr hx010 hw') (fun j hj => by omega)
  refine hK _ _ ?_
  clear hK K hD' hw' hr q2
  refine wpVL_nil ?_
  rw [show (by2 (65535 - C)).length = 2 from rfl, HMF.out, show 65535 - C = FLD from HFC.out] at q1
  go_wp2_with fail
  go_ret2
  rw [hU.out]
  exact ⟨_, rfl, q1, hx8⟩

/-- Whether two messages are the same. -/
def msame (m n : Ms) : Bool := (m.ty == n.ty) && (m.cd == n.cd) && (m.rest == n.rest) && decide (m.data = n.data)
theorem msame_iff (m n : Ms) : msame m n = true ↔ m = n := by
  obtain ⟨a, b, c, d⟩ := m
  obtain ⟨a', b', c', d'⟩ := n
  simp [msame, and_assoc]

theorem msame_any (m n : Ms) (vd vd' : Value) (w : World) (hm : m.ok) (hn : n.ok) (hvd : Rd .u8 w vd m.data) (hvd' : Rd .u8 w vd' n.data) :
    Calls Tryz.prog 27 #[.agg (m.cells vd), .agg (n.cells vd')] w fun e w' => e = .returned (.bool (msame m n)) ∧ Ext w w' := by
  have HB := Lib.hid hm.data
  have HB' := Lib.hid hn.data
  have hU : Hid (msame m n = ((m.ty == n.ty) && (m.cd == n.cd) && (m.rest == n.rest) && decide (m.data = n.data))) := rfl
  clear hm hn
  generalize msame m n = MS at *
  obtain ⟨ty, cd, rest, data⟩ := m
  obtain ⟨ty', cd2, rest', data'⟩ := n
  dsimp only [Ms.cells] at *
  have hx0 : Ext w ((w.alloc (.cells #[.int .u8 ty, .int .u8 cd, .int .u32 rest, vd] 33)).alloc (.cells #[.int .u8 ty', .int .u8 cd2, .int .u32 rest', vd'] 33)) := (Ext.new _ _).al _
  have h1 := hvd.ext hx0
  have h2 := hvd'.ext hx0
  obtain ⟨a, cap, rfl, -, -, -⟩ := hvd
  obtain ⟨a', cap', rfl, -, -, -⟩ := hvd'
  go_enter Tryz.func27, Tryz.ntmps27
  by_cases q1 : ty = ty'
  · subst q1
    by_cases q2 : cd = cd2
    · subst q2
      by_cases q3 : rest = rest'
      · subst q3
        go_wp2_with fail
        refine (beq_any _ _ data data' _ h1 h2 HB.out HB'.out).mono ?_
        rintro e w2 ⟨rfl, hx⟩
        go_wp2_with fail
        go_ret
        exact ⟨by rw [hU.out]; simp, hx0.tr hx⟩
      · have hne : (rest == rest') = false := by simpa using q3
        go_wp2_with fail
        go_ret
        exact ⟨by rw [hU.out]; simp [hne], hx0⟩
    · have hne : (cd == cd2) = false := by simpa using q2
      go_wp2_with fail
      go_ret
      exact ⟨by rw [hU.out]; simp [hne], hx0⟩
  · have hne : (ty == ty') = false := by simpa using q1
    go_wp2_with fail
    go_ret
    exact ⟨by rw [hU.out]; simp [hne], hx0⟩
end Go.Proofs.YtbaidlkjbdeceaaGreat

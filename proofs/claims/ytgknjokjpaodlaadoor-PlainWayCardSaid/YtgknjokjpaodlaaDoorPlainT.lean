/-
  Proved here: what plain's segment and the closure of Take compute.
-/
import Derived.Test.YtgknjokjpaodlaaDoorPlainC
import Derived.Test.YtgknjokjpaodlaaDoorRegion
import Derived.Deep.Cut
namespace Go.Proofs.YtgknjokjpaodlaaDoor
open Go.ChangeShapes Go.WideShapes Go.ChangeAt Go.RowKit Go.Cul Go.Loose
set_option linter.unusedVariables false
attribute [local go_sem] Loose.Still Loose.Upon Loose.vUpon

/-- A side's numbers are in their bounds. -/
def Sd.ok (s : Sd) : Prop := (0 ≤ s.acked ∧ s.acked ≤ 4294967295) ∧ (0 ≤ s.behind ∧ s.behind ≤ 4294967295) ∧ (0 ≤ s.win ∧ s.win ≤ 65535)

def overM (me o : Sd) : Bool := me.ended && o.acks && !sLess o.acked me.behind

theorem over_any (me o : Sd) (w : World) (hm : me.ok) (ho : o.ok) : Calls Tryd.prog 20 #[me.v, o.v] w fun e w' => e = .returned (.bool (overM me o)) ∧ Ext w w' := by
  obtain ⟨m1, m2, m3, m4, m5, m6⟩ := me
  obtain ⟨o1, o2, o3, o4, o5, o6⟩ := o
  simp only [Sd.v, Sd.ok, overM] at *
  go_enter Tryd.func20, Tryd.ntmps20
  cases m3
  · go_wp2
    go_ret
    exact ⟨rfl, (Ext.new _ _).al _⟩
  cases o2
  · go_wp2
    go_ret
    exact ⟨rfl, (Ext.new _ _).al _⟩
  go_wp2_with fail
  refine (less_any o4 m5 _ ho.1 hm.2.1).mono ?_
  rintro e w1 ⟨rfl, rfl⟩
  go_wp2
  go_ret
  exact ⟨by simp, (Ext.new _ _).al _⟩

/-- What a segment tells of the side that sent it. -/
def segM (q k f win : Int) (n : Nat) (me : Sd) : Sd :=
  if fl f 4 then me else
  let m1 : Sd := if fl f 16 then { me with acks := true, acked := k, win := win } else me
  if fl f 1 then { m1 with ended := true, behind := (q + sLen n f) % 4294967296 } else m1

def Fl.set (f : Fl) (ins : Bool) (s : Sd) : Fl := if ins then { f with i := s } else { f with o := s }
def Fl.side (f : Fl) (ins : Bool) : Sd := if ins then f.i else f.o
def offOf (ins : Bool) : Nat := if ins then 9 else 3

set_option maxHeartbeats 4000000 in
theorem segment_any (sp dp ug op : Value) (q k f win : Int) (a : Option Addr) (n c b : Nat) (m : Fl) (ins : Bool) (o : Sd) (w : World) (h : At w b m)
    (hf : 0 ≤ f ∧ f ≤ 255) (hq : 0 ≤ q ∧ q ≤ 4294967295) (hk : 0 ≤ k ∧ k ≤ 4294967295) (hwi : 0 ≤ win ∧ win ≤ 65535) (ho : o.ok) :
    Calls Tryd.prog 19 #[.agg #[sp, dp, .int .u32 q, .int .u32 k, .int .u8 f, .int .u16 win, ug, op, .slice a n c], .pointer (some ⟨b, offOf ins, none⟩), o.v] w
      fun e w' => e = .returned (.bool (fl f 4 && sCounts q o)) ∧ At w' b (m.set ins (segM q k f win n (m.side ins))) ∧ Mvs (fun j => j = b) w w' := by
  have h1 := and1 f hf
  have h4 := and4 f hf
  have h16 := and16 f hf
  have hL := fun (w : World) => length_any sp dp (.int .u32 q) (.int .u32 k) (.int .u16 win) ug op f a n c w hf
  unfold segM
  have hlb : 0 ≤ sLen n f ∧ sLen n f ≤ 4294967295 := by unfold sLen; split <;> split <;> omega
  generalize sLen n f = len at *
  have hb := lt_of_block h
  obtain ⟨idle, wait, proto, ⟨o1, o2, o3, o4, o5, o6⟩, ⟨i1, i2, i3, i4, i5, i6⟩, last, shut, since⟩ := m
  obtain ⟨s1, s2, s3, s4, s5, s6⟩ := o
  have ho2 := ho.2.2
  clear ho
  simp only [At, Fl.cells] at h
  simp only [Sd.v]
  go_enter Tryd.func19, Tryd.ntmps19
  cases e4 : fl f 4
  case true =>
    simp only [e4, if_true] at h4 ⊢
    go_wp2_with fail
    refine (counts_any sp dp q _ _ _ ug op _ ⟨s1, s2, s3, s4, s5, s6⟩ _ ho2).mono ?_
    rintro e w1 ⟨rfl, hx⟩
    have hx1 := ((Ext.new w _).al _).tr hx
    go_wp2
    go_ret
    refine ⟨by simp, ?_, Mvs.ofExt hx1⟩
    have := hx1.block h
    cases ins <;> exact this
  simp only [e4] at h4 ⊢
  go_upto_region 3 with (fail)
  generalize hW : (w.alloc _).alloc _ = W
  have kb : W.heap[b]? = some (.cells #[.int .u64 idle, .int .u64 wait, .int .u8 proto, .bool o1, .bool o2, .bool o3, .int .u32 o4, .int .u32 o5, .int .u16 o6, .bool i1, .bool i2, .bool i3, .int .u32 i4, .int .u32 i5, .int .u16 i6, .int .u64 last, .bool shut, .int .u64 since] 63) := by rw [← hW]; exact ((Ext.new w _).al _).block h
  have kp : W.heap[w.heap.size]? = some (.cells #[sp, dp, .int .u32 q, .int .u32 k, .int .u8 f, .int .u16 win, ug, op, .slice a n c] 40) := by rw [← hW]; simp only [heap_alloc_at, World.size_alloc]; repeat (first | rfl | rw [if_pos (by first | trivial | omega)] | rw [if_neg (by omega)])
  have hxW : Ext w W := by rw [← hW]; exact (Ext.new w _).al _
  clear hW
  have fz := fz_blk kb
  have hpb : w.heap.size ≠ b := by omega
  have p0 := cell_blk kp 0
  have p1 := cell_blk kp 1
  have p2 := cell_blk kp 2
  have p3 := cell_blk kp 3
  have p4 := cell_blk kp 4
  have p5 := cell_blk kp 5
  have p6 := cell_blk kp 6
  have p7 := cell_blk kp 7
  have p8 := cell_blk kp 8
  simp at p0 p1 p2 p3 p4 p5 p6 p7 p8
  have hwl : IntKind.i64.wrap len = len := by
    unfold IntKind.wrap
    simp [IntKind.signed, IntKind.bits]
    omega
  have hA := fun (w : World) => (sadd_any q len w).mono (R' := fun e w' => e = .returned (.int .u32 ((q + len) % 4294967296)) ∧ Ext w w') fun e w' h => ⟨h.1, h.2 ▸ Ext.rfl' _⟩
  cases e16 : fl f 16 <;> cases e1 : fl f 1 <;> simp only [e16, e1, if_true, if_false, Bool.false_eq_true] at h1 h16 ⊢
  · go_wp2
    go_ret
    refine ⟨rfl, ?_, Mvs.ofExt hxW⟩
    cases ins <;> exact kb
  · cases ins
    · simp only [offOf]
      go_wp2_with fail
      refine wp_region_tail 8 [(5, is (.int .u32 len)), (7, is (.int .u32 ((q + len) % 4294967296)))] ?_ (by kernel_rfl) (by kernel_rfl) (by kernel_rfl) ?_
      · exact lasts_cons (fun _ _ _ _ h => h) (lasts_cons (fun _ _ _ _ h => h) lasts_nil)
      simp only [List.take, List.drop]
      iterate 4
        apply wpL_none rfl rfl
        · intro w' hw' hn'; have p2 := Ext.cell hw' p2; go_simp; exact rfl
        intro K hK; go_simp; refine hK _ _ ?_; clear hK K
      iterate 1
        apply wpL_none rfl rfl
        · intro w' hw' hn'; have p0 := Ext.cell hw' p0; have p1 := Ext.cell hw' p1; have p2 := Ext.cell hw' p2; have p3 := Ext.cell hw' p3; have p4 := Ext.cell hw' p4; have p5 := Ext.cell hw' p5; have p6 := Ext.cell hw' p6; have p7 := Ext.cell hw' p7; have p8 := Ext.cell hw' p8; go_simp; exact rfl
        intro K hK; go_simp; refine hK _ _ ?_; clear hK K
      apply wpL_some rfl rfl
      · intro w' hw' hn'
        go_simp
        refine ⟨Ext.rfl' _, ?_⟩
        refine (hL _).mono ?_
        rintro e w2 ⟨rfl, hx⟩
        exact ⟨_, rfl, hx, rfl⟩
      intro v w' hw' hD' hv
      obtain rfl : v = _ := hv
      clear hw' hD' w'
      intro K hK; go_simp; refine hK _ _ ?_; clear hK K
      iterate 1
        apply wpL_none rfl rfl
        · intro w' hw' hn'; go_simp; exact rfl
        intro K hK; go_simp; refine hK _ _ ?_; clear hK K
      apply wpL_some rfl rfl
      · intro w' hw' hn'
        go_simp
        refine ⟨Ext.rfl' _, ?_⟩
        refine (hA _).mono ?_
        rintro e w2 ⟨rfl, hx⟩
        exact ⟨_, rfl, hx, rfl⟩
      intro v w' hw' hD' hv
      obtain rfl : v = _ := hv
      clear hw' hD' w'
      intro K hK; go_simp; refine hK _ _ ?_; clear hK K
      refine wpL_nil ?_
      intro w' hw' hD'
      have kb2 := Ext.block hw' kb
      have fz2 := fz_blk kb2
      have c5 := cell_blk kb2 5
      have c7 := cell_blk kb2 7
      simp at c5 c7
      clear hD'
      iterate 6
        apply wpVL_step rfl
        intro K hK
        go_simp
        refine hK _ _ ?_
        clear hK K
      refine wpVL_nil ?_
      have kb3 := set_blk (set_blk kb2 5 (.bool true)) 7 (.int .u32 ((q + len) % 4294967296))
      have hm : Mvs (fun j => j = b) w _ := (Mvs.ofExt hxW).tr ((Mvs.ofExt hw').tr ((Mvs.set (S := fun j => j = b) w' ⟨b, 5, none⟩ (.bool true) rfl).tr (Mvs.set (S := fun j => j = b) _ ⟨b, 7, none⟩ (.int .u32 ((q + len) % 4294967296)) rfl)))
      generalize (w'.setCell ⟨b, 5, none⟩ (.bool true)).setCell ⟨b, 7, none⟩ (.int .u32 ((q + len) % 4294967296)) = V at kb3 hm ⊢
      clear fz2 c5 c7
      go_wp2
      go_ret
      exact ⟨rfl, kb3, hm⟩
    · simp only [offOf]
      go_wp2_with fail
      refine wp_region_tail 8 [(5, is (.int .u32 len)), (7, is (.int .u32 ((q + len) % 4294967296)))] ?_ (by kernel_rfl) (by kernel_rfl) (by kernel_rfl) ?_
      · exact lasts_cons (fun _ _ _ _ h => h) (lasts_cons (fun _ _ _ _ h => h) lasts_nil)
      simp only [List.take, List.drop]
      iterate 4
        apply wpL_none rfl rfl
        · intro w' hw' hn'; have p2 := Ext.cell hw' p2; go_simp; exact rfl
        intro K hK; go_simp; refine hK _ _ ?_; clear hK K
      iterate 1
        apply wpL_none rfl rfl
        · intro w' hw' hn'; have p0 := Ext.cell hw' p0; have p1 := Ext.cell hw' p1; have p2 := Ext.cell hw' p2; have p3 := Ext.cell hw' p3; have p4 := Ext.cell hw' p4; have p5 := Ext.cell hw' p5; have p6 := Ext.cell hw' p6; have p7 := Ext.cell hw' p7; have p8 := Ext.cell hw' p8; go_simp; exact rfl
        intro K hK; go_simp; refine hK _ _ ?_; clear hK K
      apply wpL_some rfl rfl
      · intro w' hw' hn'
        go_simp
        refine ⟨Ext.rfl' _, ?_⟩
        refine (hL _).mono ?_
        rintro e w2 ⟨rfl, hx⟩
        exact ⟨_, rfl, hx, rfl⟩
      intro v w' hw' hD' hv
      obtain rfl : v = _ := hv
      clear hw' hD' w'
      intro K hK; go_simp; refine hK _ _ ?_; clear hK K
      iterate 1
        apply wpL_none rfl rfl
        · intro w' hw' hn'; go_simp; exact rfl
        intro K hK; go_simp; refine hK _ _ ?_; clear hK K
      apply wpL_some rfl rfl
      · intro w' hw' hn'
        go_simp
        refine ⟨Ext.rfl' _, ?_⟩
        refine (hA _).mono ?_
        rintro e w2 ⟨rfl, hx⟩
        exact ⟨_, rfl, hx, rfl⟩
      intro v w' hw' hD' hv
      obtain rfl : v = _ := hv
      clear hw' hD' w'
      intro K hK; go_simp; refine hK _ _ ?_; clear hK K
      refine wpL_nil ?_
      intro w' hw' hD'
      have kb2 := Ext.block hw' kb
      have fz2 := fz_blk kb2
      have c5 := cell_blk kb2 11
      have c7 := cell_blk kb2 13
      simp at c5 c7
      clear hD'
      iterate 6
        apply wpVL_step rfl
        intro K hK
        go_simp
        refine hK _ _ ?_
        clear hK K
      refine wpVL_nil ?_
      have kb3 := set_blk (set_blk kb2 11 (.bool true)) 13 (.int .u32 ((q + len) % 4294967296))
      have hm : Mvs (fun j => j = b) w _ := (Mvs.ofExt hxW).tr ((Mvs.ofExt hw').tr ((Mvs.set (S := fun j => j = b) w' ⟨b, 11, none⟩ (.bool true) rfl).tr (Mvs.set (S := fun j => j = b) _ ⟨b, 13, none⟩ (.int .u32 ((q + len) % 4294967296)) rfl)))
      generalize (w'.setCell ⟨b, 11, none⟩ (.bool true)).setCell ⟨b, 13, none⟩ (.int .u32 ((q + len) % 4294967296)) = V at kb3 hm ⊢
      clear fz2 c5 c7
      go_wp2
      go_ret
      exact ⟨rfl, kb3, hm⟩
  · cases ins
    · skip
      have c4 := cell_blk kb 4
      have c6 := cell_blk kb 6
      have c8 := cell_blk kb 8
      simp at c4 c6 c8
      simp only [offOf]
      go_wp2_with fail
      go_region
      have kb1 := set_blk (set_blk (set_blk kb 4 (.bool true)) 6 (.int .u32 k)) 8 (.int .u16 win)
      have kp1 := set_oth (set_oth (set_oth kp hpb 4 (.bool true)) hpb 6 (.int .u32 k)) hpb 8 (.int .u16 win)
      have hm1 : Mvs (fun j => j = b) w _ := (Mvs.ofExt hxW).tr ((Mvs.set (S := fun j => j = b) W ⟨b, 4, none⟩ (.bool true) rfl).tr ((Mvs.set (S := fun j => j = b) _ ⟨b, 6, none⟩ (.int .u32 k) rfl).tr ((Mvs.set (S := fun j => j = b) _ ⟨b, 8, none⟩ (.int .u16 win) rfl).tr (Mvs.ofExt (Ext.rfl' _).dr))))
      have kb1 := (Ext.rfl' _).dr.block kb1
      have kp1 := (Ext.rfl' _).dr.block kp1
      generalize (((W.setCell _ _).setCell _ _).setCell _ _).drew = V at *
      clear c4 c6 c8 p0 p1 p2 p3 p4 p5 p6 p7 p8 fz kp kb
      have kb := kb1
      have kp := kp1
      clear kb1 kp1
      have p0 := cell_blk kp 0
      have p1 := cell_blk kp 1
      have p2 := cell_blk kp 2
      have p3 := cell_blk kp 3
      have p4 := cell_blk kp 4
      have p5 := cell_blk kp 5
      have p6 := cell_blk kp 6
      have p7 := cell_blk kp 7
      have p8 := cell_blk kp 8
      simp at p0 p1 p2 p3 p4 p5 p6 p7 p8
      go_wp2
      go_ret
      exact ⟨rfl, kb, hm1⟩
    · skip
      have c4 := cell_blk kb 10
      have c6 := cell_blk kb 12
      have c8 := cell_blk kb 14
      simp at c4 c6 c8
      simp only [offOf]
      go_wp2_with fail
      go_region
      have kb1 := set_blk (set_blk (set_blk kb 10 (.bool true)) 12 (.int .u32 k)) 14 (.int .u16 win)
      have kp1 := set_oth (set_oth (set_oth kp hpb 10 (.bool true)) hpb 12 (.int .u32 k)) hpb 14 (.int .u16 win)
      have hm1 : Mvs (fun j => j = b) w _ := (Mvs.ofExt hxW).tr ((Mvs.set (S := fun j => j = b) W ⟨b, 10, none⟩ (.bool true) rfl).tr ((Mvs.set (S := fun j => j = b) _ ⟨b, 12, none⟩ (.int .u32 k) rfl).tr ((Mvs.set (S := fun j => j = b) _ ⟨b, 14, none⟩ (.int .u16 win) rfl).tr (Mvs.ofExt (Ext.rfl' _).dr))))
      have kb1 := (Ext.rfl' _).dr.block kb1
      have kp1 := (Ext.rfl' _).dr.block kp1
      generalize (((W.setCell _ _).setCell _ _).setCell _ _).drew = V at *
      clear c4 c6 c8 p0 p1 p2 p3 p4 p5 p6 p7 p8 fz kp kb
      have kb := kb1
      have kp := kp1
      clear kb1 kp1
      have p0 := cell_blk kp 0
      have p1 := cell_blk kp 1
      have p2 := cell_blk kp 2
      have p3 := cell_blk kp 3
      have p4 := cell_blk kp 4
      have p5 := cell_blk kp 5
      have p6 := cell_blk kp 6
      have p7 := cell_blk kp 7
      have p8 := cell_blk kp 8
      simp at p0 p1 p2 p3 p4 p5 p6 p7 p8
      go_wp2
      go_ret
      exact ⟨rfl, kb, hm1⟩
  · cases ins
    · skip
      have c4 := cell_blk kb 4
      have c6 := cell_blk kb 6
      have c8 := cell_blk kb 8
      simp at c4 c6 c8
      simp only [offOf]
      go_wp2_with fail
      go_region
      have kb1 := set_blk (set_blk (set_blk kb 4 (.bool true)) 6 (.int .u32 k)) 8 (.int .u16 win)
      have kp1 := set_oth (set_oth (set_oth kp hpb 4 (.bool true)) hpb 6 (.int .u32 k)) hpb 8 (.int .u16 win)
      have hm1 : Mvs (fun j => j = b) w _ := (Mvs.ofExt hxW).tr ((Mvs.set (S := fun j => j = b) W ⟨b, 4, none⟩ (.bool true) rfl).tr ((Mvs.set (S := fun j => j = b) _ ⟨b, 6, none⟩ (.int .u32 k) rfl).tr ((Mvs.set (S := fun j => j = b) _ ⟨b, 8, none⟩ (.int .u16 win) rfl).tr (Mvs.ofExt (Ext.rfl' _).dr))))
      have kb1 := (Ext.rfl' _).dr.block kb1
      have kp1 := (Ext.rfl' _).dr.block kp1
      generalize (((W.setCell _ _).setCell _ _).setCell _ _).drew = V at *
      clear c4 c6 c8 p0 p1 p2 p3 p4 p5 p6 p7 p8 fz kp kb
      have kb := kb1
      have kp := kp1
      clear kb1 kp1
      have p0 := cell_blk kp 0
      have p1 := cell_blk kp 1
      have p2 := cell_blk kp 2
      have p3 := cell_blk kp 3
      have p4 := cell_blk kp 4
      have p5 := cell_blk kp 5
      have p6 := cell_blk kp 6
      have p7 := cell_blk kp 7
      have p8 := cell_blk kp 8
      simp at p0 p1 p2 p3 p4 p5 p6 p7 p8
      go_wp2_with fail
      refine wp_region_tail 8 [(5, is (.int .u32 len)), (7, is (.int .u32 ((q + len) % 4294967296)))] ?_ (by kernel_rfl) (by kernel_rfl) (by kernel_rfl) ?_
      · exact lasts_cons (fun _ _ _ _ h => h) (lasts_cons (fun _ _ _ _ h => h) lasts_nil)
      simp only [List.take, List.drop]
      iterate 4
        apply wpL_none rfl rfl
        · intro w' hw' hn'; have p2 := Ext.cell hw' p2; go_simp; exact rfl
        intro K hK; go_simp; refine hK _ _ ?_; clear hK K
      iterate 1
        apply wpL_none rfl rfl
        · intro w' hw' hn'; have p0 := Ext.cell hw' p0; have p1 := Ext.cell hw' p1; have p2 := Ext.cell hw' p2; have p3 := Ext.cell hw' p3; have p4 := Ext.cell hw' p4; have p5 := Ext.cell hw' p5; have p6 := Ext.cell hw' p6; have p7 := Ext.cell hw' p7; have p8 := Ext.cell hw' p8; go_simp; exact rfl
        intro K hK; go_simp; refine hK _ _ ?_; clear hK K
      apply wpL_some rfl rfl
      · intro w' hw' hn'
        go_simp
        refine ⟨Ext.rfl' _, ?_⟩
        refine (hL _).mono ?_
        rintro e w2 ⟨rfl, hx⟩
        exact ⟨_, rfl, hx, rfl⟩
      intro v w' hw' hD' hv
      obtain rfl : v = _ := hv
      clear hw' hD' w'
      intro K hK; go_simp; refine hK _ _ ?_; clear hK K
      iterate 1
        apply wpL_none rfl rfl
        · intro w' hw' hn'; go_simp; exact rfl
        intro K hK; go_simp; refine hK _ _ ?_; clear hK K
      apply wpL_some rfl rfl
      · intro w' hw' hn'
        go_simp
        refine ⟨Ext.rfl' _, ?_⟩
        refine (hA _).mono ?_
        rintro e w2 ⟨rfl, hx⟩
        exact ⟨_, rfl, hx, rfl⟩
      intro v w' hw' hD' hv
      obtain rfl : v = _ := hv
      clear hw' hD' w'
      intro K hK; go_simp; refine hK _ _ ?_; clear hK K
      refine wpL_nil ?_
      intro w' hw' hD'
      have kb2 := Ext.block hw' kb
      have fz2 := fz_blk kb2
      have c5 := cell_blk kb2 5
      have c7 := cell_blk kb2 7
      simp at c5 c7
      clear hD'
      iterate 6
        apply wpVL_step rfl
        intro K hK
        go_simp
        refine hK _ _ ?_
        clear hK K
      refine wpVL_nil ?_
      have kb3 := set_blk (set_blk kb2 5 (.bool true)) 7 (.int .u32 ((q + len) % 4294967296))
      have hm : Mvs (fun j => j = b) w _ := hm1.tr ((Mvs.ofExt hw').tr ((Mvs.set (S := fun j => j = b) w' ⟨b, 5, none⟩ (.bool true) rfl).tr (Mvs.set (S := fun j => j = b) _ ⟨b, 7, none⟩ (.int .u32 ((q + len) % 4294967296)) rfl)))
      generalize (w'.setCell ⟨b, 5, none⟩ (.bool true)).setCell ⟨b, 7, none⟩ (.int .u32 ((q + len) % 4294967296)) = V at kb3 hm ⊢
      clear fz2 c5 c7
      go_wp2
      go_ret
      exact ⟨rfl, kb3, hm⟩
    · skip
      have c4 := cell_blk kb 10
      have c6 := cell_blk kb 12
      have c8 := cell_blk kb 14
      simp at c4 c6 c8
      simp only [offOf]
      go_wp2_with fail
      go_region
      have kb1 := set_blk (set_blk (set_blk kb 10 (.bool true)) 12 (.int .u32 k)) 14 (.int .u16 win)
      have kp1 := set_oth (set_oth (set_oth kp hpb 10 (.bool true)) hpb 12 (.int .u32 k)) hpb 14 (.int .u16 win)
      have hm1 : Mvs (fun j => j = b) w _ := (Mvs.ofExt hxW).tr ((Mvs.set (S := fun j => j = b) W ⟨b, 10, none⟩ (.bool true) rfl).tr ((Mvs.set (S := fun j => j = b) _ ⟨b, 12, none⟩ (.int .u32 k) rfl).tr ((Mvs.set (S := fun j => j = b) _ ⟨b, 14, none⟩ (.int .u16 win) rfl).tr (Mvs.ofExt (Ext.rfl' _).dr))))
      have kb1 := (Ext.rfl' _).dr.block kb1
      have kp1 := (Ext.rfl' _).dr.block kp1
      generalize (((W.setCell _ _).setCell _ _).setCell _ _).drew = V at *
      clear c4 c6 c8 p0 p1 p2 p3 p4 p5 p6 p7 p8 fz kp kb
      have kb := kb1
      have kp := kp1
      clear kb1 kp1
      have p0 := cell_blk kp 0
      have p1 := cell_blk kp 1
      have p2 := cell_blk kp 2
      have p3 := cell_blk kp 3
      have p4 := cell_blk kp 4
      have p5 := cell_blk kp 5
      have p6 := cell_blk kp 6
      have p7 := cell_blk kp 7
      have p8 := cell_blk kp 8
      simp at p0 p1 p2 p3 p4 p5 p6 p7 p8
      go_wp2_with fail
      refine wp_region_tail 8 [(5, is (.int .u32 len)), (7, is (.int .u32 ((q + len) % 4294967296)))] ?_ (by kernel_rfl) (by kernel_rfl) (by kernel_rfl) ?_
      · exact lasts_cons (fun _ _ _ _ h => h) (lasts_cons (fun _ _ _ _ h => h) lasts_nil)
      simp only [List.take, List.drop]
      iterate 4
        apply wpL_none rfl rfl
        · intro w' hw' hn'; have p2 := Ext.cell hw' p2; go_simp; exact rfl
        intro K hK; go_simp; refine hK _ _ ?_; clear hK K
      iterate 1
        apply wpL_none rfl rfl
        · intro w' hw' hn'; have p0 := Ext.cell hw' p0; have p1 := Ext.cell hw' p1; have p2 := Ext.cell hw' p2; have p3 := Ext.cell hw' p3; have p4 := Ext.cell hw' p4; have p5 := Ext.cell hw' p5; have p6 := Ext.cell hw' p6; have p7 := Ext.cell hw' p7; have p8 := Ext.cell hw' p8; go_simp; exact rfl
        intro K hK; go_simp; refine hK _ _ ?_; clear hK K
      apply wpL_some rfl rfl
      · intro w' hw' hn'
        go_simp
        refine ⟨Ext.rfl' _, ?_⟩
        refine (hL _).mono ?_
        rintro e w2 ⟨rfl, hx⟩
        exact ⟨_, rfl, hx, rfl⟩
      intro v w' hw' hD' hv
      obtain rfl : v = _ := hv
      clear hw' hD' w'
      intro K hK; go_simp; refine hK _ _ ?_; clear hK K
      iterate 1
        apply wpL_none rfl rfl
        · intro w' hw' hn'; go_simp; exact rfl
        intro K hK; go_simp; refine hK _ _ ?_; clear hK K
      apply wpL_some rfl rfl
      · intro w' hw' hn'
        go_simp
        refine ⟨Ext.rfl' _, ?_⟩
        refine (hA _).mono ?_
        rintro e w2 ⟨rfl, hx⟩
        exact ⟨_, rfl, hx, rfl⟩
      intro v w' hw' hD' hv
      obtain rfl : v = _ := hv
      clear hw' hD' w'
      intro K hK; go_simp; refine hK _ _ ?_; clear hK K
      refine wpL_nil ?_
      intro w' hw' hD'
      have kb2 := Ext.block hw' kb
      have fz2 := fz_blk kb2
      have c5 := cell_blk kb2 11
      have c7 := cell_blk kb2 13
      simp at c5 c7
      clear hD'
      iterate 6
        apply wpVL_step rfl
        intro K hK
        go_simp
        refine hK _ _ ?_
        clear hK K
      refine wpVL_nil ?_
      have kb3 := set_blk (set_blk kb2 11 (.bool true)) 13 (.int .u32 ((q + len) % 4294967296))
      have hm : Mvs (fun j => j = b) w _ := hm1.tr ((Mvs.ofExt hw').tr ((Mvs.set (S := fun j => j = b) w' ⟨b, 11, none⟩ (.bool true) rfl).tr (Mvs.set (S := fun j => j = b) _ ⟨b, 13, none⟩ (.int .u32 ((q + len) % 4294967296)) rfl)))
      generalize (w'.setCell ⟨b, 11, none⟩ (.bool true)).setCell ⟨b, 13, none⟩ (.int .u32 ((q + len) % 4294967296)) = V at kb3 hm ⊢
      clear fz2 c5 c7
      go_wp2
      go_ret
      exact ⟨rfl, kb3, hm⟩
end Go.Proofs.YtgknjokjpaodlaaDoor

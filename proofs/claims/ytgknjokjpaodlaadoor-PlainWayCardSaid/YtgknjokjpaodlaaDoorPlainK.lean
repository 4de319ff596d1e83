/-
  Proved here: what plain's Take computes.
-/
import Derived.Test.YtgknjokjpaodlaaDoorPlainT
namespace Go.Proofs.YtgknjokjpaodlaaDoor
open Go.ChangeShapes Go.WideShapes Go.ChangeAt Go.RowKit Go.Cul Go.Loose
set_option linter.unusedVariables false
attribute [local go_sem] Loose.Still Loose.Upon Loose.vUpon

/-- A packet: what of it counts here; the rest is whatever. -/
structure Pk where
  h0 : Value
  h1 : Value
  h2 : Value
  h3 : Value
  proto : Int
  h5 : Value
  h6 : Value
  h7 : Value
  sp : Value
  dp : Value
  q : Int
  k : Int
  f : Int
  win : Int
  ug : Value
  op : Value
  a : Option Addr
  n : Nat
  c : Nat
  r0 : Value
  r1 : Value
  r2 : Value
  r3 : Value
  r4 : Value
  r5 : Value
  r6 : Value
def Pk.cells (p : Pk) : Array Value := #[p.h0, p.h1, p.h2, p.h3, .int .u8 p.proto, p.h5, p.h6, p.h7, p.sp, p.dp, .int .u32 p.q, .int .u32 p.k, .int .u8 p.f, .int .u16 p.win, p.ug, p.op, .slice p.a p.n p.c, p.r0, p.r1, p.r2, p.r3, p.r4, p.r5, p.r6]
def Pk.ok (p : Pk) : Prop := (0 ≤ p.f ∧ p.f ≤ 255) ∧ (0 ≤ p.q ∧ p.q ≤ 4294967295) ∧ (0 ≤ p.k ∧ p.k ≤ 4294967295) ∧ (0 ≤ p.win ∧ p.win ≤ 65535)

def Fl.ok (f : Fl) : Prop := f.o.ok ∧ f.i.ok

/-- The flow behind a packet, with the number of the error. -/
def takeE (m : Fl) (p : Pk) : Int := if m.proto = 0 then 2 else if p.proto = m.proto then 0 else 1
/-- .. its last time and who sent. -/
def take1 (m : Fl) (ins : Bool) (now : Int) : Fl :=
  let m1 : Fl := { m with last := max m.last now }
  m1.set ins { m1.side ins with sent := true }
def take2 (m : Fl) (p : Pk) (ins : Bool) : Fl × Bool :=
  if p.proto = 6 then (m.set ins (segM p.q p.k p.f p.win p.n (m.side ins)), fl p.f 4 && sCounts p.q (m.side !ins)) else (m, false)
def take3 (m : Fl) (rst : Bool) : Fl :=
  if !m.shut && (rst || (overM m.o m.i && overM m.i m.o)) then { m with shut := true, since := m.last } else m
def takeM (m : Fl) (p : Pk) (ins : Bool) (now : Int) : Fl := if takeE m p = 0 then take3 (take2 (take1 m ins now) p ins).1 (take2 (take1 m ins now) p ins).2 else m

theorem segM_ok {q k f win : Int} {n : Nat} {s : Sd} (hs : s.ok) (hk : 0 ≤ k ∧ k ≤ 4294967295) (hwi : 0 ≤ win ∧ win ≤ 65535) : (segM q k f win n s).ok := by
  unfold segM
  have h1 : 0 ≤ (q + sLen n f) % 4294967296 := Int.emod_nonneg _ (by decide)
  have h2 : (q + sLen n f) % 4294967296 < 4294967296 := Int.emod_lt_of_pos _ (by decide)
  obtain ⟨a, b, c⟩ := hs
  split
  · exact ⟨a, b, c⟩
  · split <;> split <;> simp only [Sd.ok] <;> omega

theorem take_err (b : Nat) (m : Fl) (p : Pk) (ins : Bool) (now : Int) (w : World) (h : At w b m) (he : takeE m p ≠ 0) :
    Calls Tryd.prog 10 #[fp b, .agg p.cells, .bool ins, .int .u64 now] w fun e w' => e = .returned (.int .i64 (takeE m p)) ∧ Ext w w' := by
  obtain ⟨idle, wait, proto, ⟨o1, o2, o3, o4, o5, o6⟩, ⟨i1, i2, i3, i4, i5, i6⟩, last, shut, since⟩ := m
  obtain ⟨h0, h1, h2, h3, pp, h5, h6, h7, sp, dp, q, k, f, win, ug, op, a, n, c, r0, r1, r2, r3, r4, r5, r6⟩ := p
  have hA := h
  simp only [At, Fl.cells, Pk.cells, takeE] at *
  have hlt := lt_of_block h
  by_cases hp : proto = 0
  · subst hp
    rw [if_pos rfl]
    go_enter Tryd.func10, Tryd.ntmps10
    go_wp2_with fail
    refine (none_any b ⟨idle, wait, 0, ⟨o1, o2, o3, o4, o5, o6⟩, ⟨i1, i2, i3, i4, i5, i6⟩, last, shut, since⟩ _ ((Ext.new w _).block hA)).mono ?_
    rintro e w1 ⟨rfl, rfl⟩
    go_wp2
    go_ret
    exact ⟨rfl, Ext.new _ _⟩
  have hp' : (proto == 0) = false := by simp [hp]
  rw [if_neg hp] at he ⊢
  by_cases hq : pp = proto
  · rw [if_pos hq] at he; exact absurd rfl he
  rw [if_neg hq]
  have hq' : (pp == proto) = false := by simp [hq]
  go_enter Tryd.func10, Tryd.ntmps10
  go_wp2_with fail
  refine (none_any b ⟨idle, wait, proto, ⟨o1, o2, o3, o4, o5, o6⟩, ⟨i1, i2, i3, i4, i5, i6⟩, last, shut, since⟩ _ ((Ext.new w _).block hA)).mono ?_
  rintro e w1 ⟨rfl, rfl⟩
  simp only [hp']
  go_wp2_with fail
  have e2 := cell_blk ((Ext.new w (.cells #[h0, h1, h2, h3, .int .u8 pp, h5, h6, h7, sp, dp, .int .u32 q, .int .u32 k, .int .u8 f, .int .u16 win, ug, op, .slice a n c, r0, r1, r2, r3, r4, r5, r6] 46)).block h) 2
  simp at e2
  go_region
  go_wp2
  go_ret
  exact ⟨rfl, (Ext.new _ _).dr⟩

theorem take_nil (p : Pk) (ins : Bool) (now : Int) (w : World) :
    Calls Tryd.prog 10 #[.pointer none, .agg p.cells, .bool ins, .int .u64 now] w fun e w' => e = .returned (.int .i64 2) ∧ Ext w w' := by
  obtain ⟨h0, h1, h2, h3, pp, h5, h6, h7, sp, dp, q, k, f, win, ug, op, a, n, c, r0, r1, r2, r3, r4, r5, r6⟩ := p
  simp only [Pk.cells] at *
  go_enter Tryd.func10, Tryd.ntmps10
  go_wp2_with fail
  refine (none_nil _).mono ?_
  rintro e w1 ⟨rfl, rfl⟩
  go_wp2
  go_ret
  exact ⟨rfl, Ext.new _ _⟩

set_option maxHeartbeats 4000000 in
theorem take_any (b : Nat) (m : Fl) (p : Pk) (ins : Bool) (now : Int) (w : World) (h : At w b m) (he : takeE m p = 0) (hm : m.ok) (hp : p.ok) :
    Calls Tryd.prog 10 #[fp b, .agg p.cells, .bool ins, .int .u64 now] w fun e w' => e = .returned (.int .i64 0) ∧ At w' b (takeM m p ins now) ∧ Mvs (fun j => j = b) w w' := by
  unfold takeM
  rw [if_pos he]
  obtain ⟨idle, wait, proto, ⟨o1, o2, o3, o4, o5, o6⟩, ⟨i1, i2, i3, i4, i5, i6⟩, last, shut, since⟩ := m
  obtain ⟨h0, h1, h2, h3, pp, h5, h6, h7, sp, dp, q, k, f, win, ug, op, a, n, c, r0, r1, r2, r3, r4, r5, r6⟩ := p
  simp only [takeE] at he
  have hp0 : proto ≠ 0 := by intro e; rw [if_pos e] at he; cases he
  rw [if_neg hp0] at he
  obtain rfl : pp = proto := by
    by_cases e : pp = proto
    · exact e
    · rw [if_neg e] at he; cases he
  have hp' : (pp == 0) = false := by simp [hp0]
  clear he
  obtain ⟨hmo, hmi⟩ := hm
  obtain ⟨hf, hq, hk, hwi⟩ := hp
  simp only [At, Fl.cells, Pk.cells, take1] at *
  have hlt := lt_of_block h
  have hpb : w.heap.size ≠ b := by omega
  obtain ⟨mx, hmx, hmx'⟩ : ∃ mx, (if last < now then now else last) = mx ∧ max last now = mx := ⟨_, rfl, by split <;> omega⟩
  rw [hmx']
  clear hmx'
  by_cases hq6 : pp = 6
  · subst hq6
    cases ins
    · have HS := fun (w : World) (h : w.heap[b]? = some (.cells #[.int .u64 idle, .int .u64 wait, .int .u8 6, .bool true, .bool o2, .bool o3, .int .u32 o4, .int .u32 o5, .int .u16 o6, .bool i1, .bool i2, .bool i3, .int .u32 i4, .int .u32 i5, .int .u16 i6, .int .u64 mx, .bool shut, .int .u64 since] 63)) => segment_any sp dp ug op q k f win a n c b ⟨idle, wait, 6, ⟨true, o2, o3, o4, o5, o6⟩, ⟨i1, i2, i3, i4, i5, i6⟩, mx, shut, since⟩ false ⟨i1, i2, i3, i4, i5, i6⟩ w h hf hq hk hwi hmi
      have hsk := segM_ok (q := q) (f := f) (n := n) (s := ⟨true, o2, o3, o4, o5, o6⟩) (show Sd.ok _ from ⟨hmo.1, hmo.2.1, hmo.2.2⟩) hk hwi
      simp only [take2, Fl.set, Fl.side, Bool.not_false, Bool.false_eq_true, if_false, if_true, Sd.v, At, Fl.cells, offOf] at HS ⊢
      generalize segM q k f win n (⟨true, o2, o3, o4, o5, o6⟩ : Sd) = sg at *
      generalize (fl f 4 && sCounts q (⟨i1, i2, i3, i4, i5, i6⟩ : Sd)) = rst at *
      obtain ⟨s1, s2, s3, s4, s5, s6⟩ := sg
      have ho3 := hsk
      have hi3 := hmi
      have hB1 := fun (w : World) => over_any ⟨s1, s2, s3, s4, s5, s6⟩ ⟨i1, i2, i3, i4, i5, i6⟩ w ho3 hi3
      have hB2 := fun (w : World) => over_any ⟨i1, i2, i3, i4, i5, i6⟩ ⟨s1, s2, s3, s4, s5, s6⟩ w hi3 ho3
      simp only [take3]
      generalize overM (⟨s1, s2, s3, s4, s5, s6⟩ : Sd) ⟨i1, i2, i3, i4, i5, i6⟩ = b1 at *
      generalize overM (⟨i1, i2, i3, i4, i5, i6⟩ : Sd) ⟨s1, s2, s3, s4, s5, s6⟩ = b2 at *
      simp only [Sd.v] at hB1 hB2
      clear ho3 hi3
      go_enter Tryd.func10, Tryd.ntmps10
      go_wp2_with fail
      refine (none_any b ⟨idle, wait, 6, ⟨o1, o2, o3, o4, o5, o6⟩, ⟨i1, i2, i3, i4, i5, i6⟩, last, shut, since⟩ _ ((Ext.new w _).block h)).mono ?_
      rintro e w1 ⟨rfl, rfl⟩
      simp only [show ((6 : Int) == 0) = false from rfl]
      generalize hW : w.alloc _ = W
      have kb := (show W.heap[b]? = some (.cells #[.int .u64 idle, .int .u64 wait, .int .u8 6, .bool o1, .bool o2, .bool o3, .int .u32 o4, .int .u32 o5, .int .u16 o6, .bool i1, .bool i2, .bool i3, .int .u32 i4, .int .u32 i5, .int .u16 i6, .int .u64 last, .bool shut, .int .u64 since] 63) by rw [← hW]; exact (Ext.new w _).block h)
      have kp := (show W.heap[w.heap.size]? = some (.cells #[h0, h1, h2, h3, .int .u8 6, h5, h6, h7, sp, dp, .int .u32 q, .int .u32 k, .int .u8 f, .int .u16 win, ug, op, .slice a n c, r0, r1, r2, r3, r4, r5, r6] 46) by rw [← hW]; exact heap_alloc_new w _)
      have hxW : Ext w W := by rw [← hW]; exact Ext.new w _
      clear hW
      have c2 := cell_blk kb 2
      have p4 := cell_blk kp 4
      simp at c2 p4
      go_wp2_with fail
      go_region
      have hxV := hxW.dr
      have kb := (Ext.rfl' W).dr.block kb
      have kp := (Ext.rfl' W).dr.block kp
      generalize W.drew = V at *
      have c15 := cell_blk kb 15
      have cs := cell_blk kb 3
      simp at c15 cs
      have fz := fz_blk kb
      clear c2 p4
      go_wp2_with fail
      have kb2 := set_blk (set_blk kb 15 (.int .u64 mx)) 3 (.bool true)
      have kp2 := set_oth (set_oth kp hpb 15 (.int .u64 mx)) hpb 3 (.bool true)
      have hm2 : Mvs (fun j => j = b) w _ := (Mvs.ofExt hxV).tr ((Mvs.set (S := fun j => j = b) V ⟨b, 15, none⟩ (.int .u64 mx) rfl).tr (Mvs.set (S := fun j => j = b) _ ⟨b, 3, none⟩ (.bool true) rfl))
      generalize (V.setCell ⟨b, 15, none⟩ (.int .u64 mx)).setCell ⟨b, 3, none⟩ (.bool true) = V2 at *
      clear c15 cs fz kb kp
      have kb2 : V2.heap[b]? = some (.cells #[.int .u64 idle, .int .u64 wait, .int .u8 6, .bool true, .bool o2, .bool o3, .int .u32 o4, .int .u32 o5, .int .u16 o6, .bool i1, .bool i2, .bool i3, .int .u32 i4, .int .u32 i5, .int .u16 i6, .int .u64 mx, .bool shut, .int .u64 since] 63) := kb2
      have p8 := cell_blk kp2 8
      have p9 := cell_blk kp2 9
      have p10 := cell_blk kp2 10
      have p11 := cell_blk kp2 11
      have p12 := cell_blk kp2 12
      have p13 := cell_blk kp2 13
      have p14 := cell_blk kp2 14
      have p15 := cell_blk kp2 15
      have p16 := cell_blk kp2 16
      simp at p8 p9 p10 p11 p12 p13 p14 p15 p16
      have c2 := cell_blk kb2 2
      have d0 := cell_blk kb2 9
      have d1 := cell_blk kb2 10
      have d2 := cell_blk kb2 11
      have d3 := cell_blk kb2 12
      have d4 := cell_blk kb2 13
      have d5 := cell_blk kb2 14
      simp at c2 d0 d1 d2 d3 d4 d5
      have hw1 : IntKind.i64.wrap 1 = 1 := by decide
      have hw0 : IntKind.i64.wrap 0 = 0 := by decide
      refine wp_region_tail 20 [] lasts_nil (by kernel_rfl) (by kernel_rfl) (by kernel_rfl) ?_
      simp only [List.take, List.drop]
      iterate 4
        apply wpL_none rfl rfl
        · intro w' hw' hn'; have c2 := Ext.cell hw' c2; go_simp; exact rfl
        intro K hK; go_simp; refine hK _ _ ?_; clear hK K
      iterate 3
        apply wpL_none rfl rfl
        · intro w' hw' hn'; go_simp; exact rfl
        intro K hK; go_simp; refine hK _ _ ?_; clear hK K
      iterate 1
        apply wpL_none rfl rfl
        · intro w' hw' hn'; have p8 := Ext.cell hw' p8; have p9 := Ext.cell hw' p9; have p10 := Ext.cell hw' p10; have p11 := Ext.cell hw' p11; have p12 := Ext.cell hw' p12; have p13 := Ext.cell hw' p13; have p14 := Ext.cell hw' p14; have p15 := Ext.cell hw' p15; have p16 := Ext.cell hw' p16; go_simp; exact rfl
        intro K hK; go_simp; refine hK _ _ ?_; clear hK K
      iterate 11
        apply wpL_none rfl rfl
        · intro w' hw' hn'; go_simp; exact rfl
        intro K hK; go_simp; refine hK _ _ ?_; clear hK K
      iterate 1
        apply wpL_none rfl rfl
        · intro w' hw' hn'; have d0 := Ext.cell hw' d0; have d1 := Ext.cell hw' d1; have d2 := Ext.cell hw' d2; have d3 := Ext.cell hw' d3; have d4 := Ext.cell hw' d4; have d5 := Ext.cell hw' d5; go_simp; exact rfl
        intro K hK; go_simp; refine hK _ _ ?_; clear hK K
      refine wpL_nil ?_
      intro w' hw' hD'
      have kb2 := Ext.block hw' kb2
      clear hD' c2 p8 p9 p10 p11 p12 p13 p14 p15 p16 d0 d1 d2 d3 d4 d5
      apply wpVL_step rfl
      intro K hK
      go_simp
      refine (HS _ kb2).mono ?_
      rintro e V3 ⟨rfl, kb3, hm3⟩
      have hm3 := hm2.tr ((Mvs.ofExt hw').tr hm3)
      refine ⟨_, rfl, hK _ _ ?_⟩
      clear hK K HS
      iterate 2
        apply wpVL_step rfl
        intro K hK
        go_simp
        refine hK _ _ ?_
        clear hK K
      refine wpVL_nil ?_
      have g3 := cell_blk kb3 3
      have g4 := cell_blk kb3 4
      have g5 := cell_blk kb3 5
      have g6 := cell_blk kb3 6
      have g7 := cell_blk kb3 7
      have g8 := cell_blk kb3 8
      have g9 := cell_blk kb3 9
      have g10 := cell_blk kb3 10
      have g11 := cell_blk kb3 11
      have g12 := cell_blk kb3 12
      have g13 := cell_blk kb3 13
      have g14 := cell_blk kb3 14
      have g15 := cell_blk kb3 15
      have g16 := cell_blk kb3 16
      have g17 := cell_blk kb3 17
      simp at g3 g4 g5 g6 g7 g8 g9 g10 g11 g12 g13 g14 g15 g16 g17
      cases b1
      · go_wp2_with fail
        refine wp_region_grow [(11, is (.bool false)), (24, is (.bool b2))] (lasts_is (lasts_is lasts_nil)) (by kernel_rfl) (by kernel_rfl) ?_
        iterate 5
          apply wpL_none rfl rfl
          · intro w' hw' hn'; go_simp; exact rfl
          intro K hK; go_simp; refine hK _ _ ?_; clear hK K
        iterate 1
          apply wpL_none rfl rfl
          · intro w' hw' hn'; have g3 := Ext.cell hw' g3; have g4 := Ext.cell hw' g4; have g5 := Ext.cell hw' g5; have g6 := Ext.cell hw' g6; have g7 := Ext.cell hw' g7; have g8 := Ext.cell hw' g8; go_simp; exact rfl
          intro K hK; go_simp; refine hK _ _ ?_; clear hK K
        iterate 4
          apply wpL_none rfl rfl
          · intro w' hw' hn'; go_simp; exact rfl
          intro K hK; go_simp; refine hK _ _ ?_; clear hK K
        iterate 1
          apply wpL_none rfl rfl
          · intro w' hw' hn'; have g9 := Ext.cell hw' g9; have g10 := Ext.cell hw' g10; have g11 := Ext.cell hw' g11; have g12 := Ext.cell hw' g12; have g13 := Ext.cell hw' g13; have g14 := Ext.cell hw' g14; go_simp; exact rfl
          intro K hK; go_simp; refine hK _ _ ?_; clear hK K
        apply wpL_some rfl rfl
        · intro w' hw' hn'
          go_simp
          refine ⟨Ext.rfl' _, ?_⟩
          refine (hB1 _).mono ?_
          rintro e w2 ⟨rfl, hx⟩
          exact ⟨_, rfl, hx, rfl⟩
        intro v w' hw' hD' hv
        obtain rfl : v = _ := hv
        clear hw' hD' w'
        intro K hK; go_simp; refine hK _ _ ?_; clear hK K
        iterate 1
          apply wpL_none rfl rfl
          · intro w' hw' hn'; go_simp; exact rfl
          intro K hK; go_simp; refine hK _ _ ?_; clear hK K
        iterate 12
          with_reducible refine wpL_skip ?_ ?_
          · rfl
          intro K hK; go_simp; refine hK _ _ ?_; clear hK K
        iterate 2
          apply wpL_none rfl rfl
          · intro w' hw' hn'; go_simp; exact rfl
          intro K hK; go_simp; refine hK _ _ ?_; clear hK K
        refine wpL_nil ?_
        intro w' hw' hD'
        clear hD' g3 g4 g5 g6 g7 g8 g9 g10 g11 g12 g13 g14 g15 g16 g17
        have kb4 := Ext.block hw' kb3
        have hm4 := hm3.tr (Mvs.ofExt hw')
        have g15 := cell_blk kb4 15
        have g16 := cell_blk kb4 16
        have g17 := cell_blk kb4 17
        simp at g15 g16 g17
        have fz4 := fz_blk kb4
        clear hB1 hB2
        have kb5 := set_blk (set_blk kb4 16 (.bool true)) 17 (.int .u64 mx)
        have hm5 : Mvs (fun j => j = b) w _ := hm4.tr ((Mvs.set (S := fun j => j = b) w' ⟨b, 16, none⟩ (.bool true) rfl).tr (Mvs.set (S := fun j => j = b) _ ⟨b, 17, none⟩ (.int .u64 mx) rfl))
        cases shut <;> cases rst
        all_goals
          go_wp2
          go_ret
          first | exact ⟨rfl, kb5, hm5⟩ | exact ⟨rfl, kb4, hm4⟩
      · go_wp2_with fail
        refine wp_region_grow [(11, is (.bool true)), (24, is (.bool b2))] (lasts_is (lasts_is lasts_nil)) (by kernel_rfl) (by kernel_rfl) ?_
        iterate 5
          apply wpL_none rfl rfl
          · intro w' hw' hn'; go_simp; exact rfl
          intro K hK; go_simp; refine hK _ _ ?_; clear hK K
        iterate 1
          apply wpL_none rfl rfl
          · intro w' hw' hn'; have g3 := Ext.cell hw' g3; have g4 := Ext.cell hw' g4; have g5 := Ext.cell hw' g5; have g6 := Ext.cell hw' g6; have g7 := Ext.cell hw' g7; have g8 := Ext.cell hw' g8; go_simp; exact rfl
          intro K hK; go_simp; refine hK _ _ ?_; clear hK K
        iterate 4
          apply wpL_none rfl rfl
          · intro w' hw' hn'; go_simp; exact rfl
          intro K hK; go_simp; refine hK _ _ ?_; clear hK K
        iterate 1
          apply wpL_none rfl rfl
          · intro w' hw' hn'; have g9 := Ext.cell hw' g9; have g10 := Ext.cell hw' g10; have g11 := Ext.cell hw' g11; have g12 := Ext.cell hw' g12; have g13 := Ext.cell hw' g13; have g14 := Ext.cell hw' g14; go_simp; exact rfl
          intro K hK; go_simp; refine hK _ _ ?_; clear hK K
        apply wpL_some rfl rfl
        · intro w' hw' hn'
          go_simp
          refine ⟨Ext.rfl' _, ?_⟩
          refine (hB1 _).mono ?_
          rintro e w2 ⟨rfl, hx⟩
          exact ⟨_, rfl, hx, rfl⟩
        intro v w' hw' hD' hv
        obtain rfl : v = _ := hv
        clear hw' hD' w'
        intro K hK; go_simp; refine hK _ _ ?_; clear hK K
        iterate 1
          apply wpL_none rfl rfl
          · intro w' hw' hn'; go_simp; exact rfl
          intro K hK; go_simp; refine hK _ _ ?_; clear hK K
        iterate 5
          apply wpL_none rfl rfl
          · intro w' hw' hn'; go_simp; exact rfl
          intro K hK; go_simp; refine hK _ _ ?_; clear hK K
        iterate 1
          apply wpL_none rfl rfl
          · intro w' hw' hn'; have g9 := Ext.cell hw' g9; have g10 := Ext.cell hw' g10; have g11 := Ext.cell hw' g11; have g12 := Ext.cell hw' g12; have g13 := Ext.cell hw' g13; have g14 := Ext.cell hw' g14; go_simp; exact rfl
          intro K hK; go_simp; refine hK _ _ ?_; clear hK K
        iterate 4
          apply wpL_none rfl rfl
          · intro w' hw' hn'; go_simp; exact rfl
          intro K hK; go_simp; refine hK _ _ ?_; clear hK K
        iterate 1
          apply wpL_none rfl rfl
          · intro w' hw' hn'; have g3 := Ext.cell hw' g3; have g4 := Ext.cell hw' g4; have g5 := Ext.cell hw' g5; have g6 := Ext.cell hw' g6; have g7 := Ext.cell hw' g7; have g8 := Ext.cell hw' g8; go_simp; exact rfl
          intro K hK; go_simp; refine hK _ _ ?_; clear hK K
        apply wpL_some rfl rfl
        · intro w' hw' hn'
          go_simp
          refine ⟨Ext.rfl' _, ?_⟩
          refine (hB2 _).mono ?_
          rintro e w2 ⟨rfl, hx⟩
          exact ⟨_, rfl, hx, rfl⟩
        intro v w' hw' hD' hv
        obtain rfl : v = _ := hv
        clear hw' hD' w'
        intro K hK; go_simp; refine hK _ _ ?_; clear hK K
        iterate 2
          apply wpL_none rfl rfl
          · intro w' hw' hn'; go_simp; exact rfl
          intro K hK; go_simp; refine hK _ _ ?_; clear hK K
        refine wpL_nil ?_
        intro w' hw' hD'
        clear hD' g3 g4 g5 g6 g7 g8 g9 g10 g11 g12 g13 g14 g15 g16 g17
        have kb4 := Ext.block hw' kb3
        have hm4 := hm3.tr (Mvs.ofExt hw')
        have g15 := cell_blk kb4 15
        have g16 := cell_blk kb4 16
        have g17 := cell_blk kb4 17
        simp at g15 g16 g17
        have fz4 := fz_blk kb4
        clear hB1 hB2
        have kb5 := set_blk (set_blk kb4 16 (.bool true)) 17 (.int .u64 mx)
        have hm5 : Mvs (fun j => j = b) w _ := hm4.tr ((Mvs.set (S := fun j => j = b) w' ⟨b, 16, none⟩ (.bool true) rfl).tr (Mvs.set (S := fun j => j = b) _ ⟨b, 17, none⟩ (.int .u64 mx) rfl))
        cases shut <;> cases b2 <;> cases rst
        all_goals
          go_wp2
          go_ret
          first | exact ⟨rfl, kb5, hm5⟩ | exact ⟨rfl, kb4, hm4⟩
    · have HS := fun (w : World) (h : w.heap[b]? = some (.cells #[.int .u64 idle, .int .u64 wait, .int .u8 6, .bool o1, .bool o2, .bool o3, .int .u32 o4, .int .u32 o5, .int .u16 o6, .bool true, .bool i2, .bool i3, .int .u32 i4, .int .u32 i5, .int .u16 i6, .int .u64 mx, .bool shut, .int .u64 since] 63)) => segment_any sp dp ug op q k f win a n c b ⟨idle, wait, 6, ⟨o1, o2, o3, o4, o5, o6⟩, ⟨true, i2, i3, i4, i5, i6⟩, mx, shut, since⟩ true ⟨o1, o2, o3, o4, o5, o6⟩ w h hf hq hk hwi hmo
      have hsk := segM_ok (q := q) (f := f) (n := n) (s := ⟨true, i2, i3, i4, i5, i6⟩) (show Sd.ok _ from ⟨hmi.1, hmi.2.1, hmi.2.2⟩) hk hwi
      simp only [take2, Fl.set, Fl.side, Bool.not_true, Bool.false_eq_true, if_false, if_true, Sd.v, At, Fl.cells, offOf] at HS ⊢
      generalize segM q k f win n (⟨true, i2, i3, i4, i5, i6⟩ : Sd) = sg at *
      generalize (fl f 4 && sCounts q (⟨o1, o2, o3, o4, o5, o6⟩ : Sd)) = rst at *
      obtain ⟨s1, s2, s3, s4, s5, s6⟩ := sg
      have hi3 := hsk
      have ho3 := hmo
      have hB1 := fun (w : World) => over_any ⟨o1, o2, o3, o4, o5, o6⟩ ⟨s1, s2, s3, s4, s5, s6⟩ w ho3 hi3
      have hB2 := fun (w : World) => over_any ⟨s1, s2, s3, s4, s5, s6⟩ ⟨o1, o2, o3, o4, o5, o6⟩ w hi3 ho3
      simp only [take3]
      generalize overM (⟨o1, o2, o3, o4, o5, o6⟩ : Sd) ⟨s1, s2, s3, s4, s5, s6⟩ = b1 at *
      generalize overM (⟨s1, s2, s3, s4, s5, s6⟩ : Sd) ⟨o1, o2, o3, o4, o5, o6⟩ = b2 at *
      simp only [Sd.v] at hB1 hB2
      clear ho3 hi3
      go_enter Tryd.func10, Tryd.ntmps10
      go_wp2_with fail
      refine (none_any b ⟨idle, wait, 6, ⟨o1, o2, o3, o4, o5, o6⟩, ⟨i1, i2, i3, i4, i5, i6⟩, last, shut, since⟩ _ ((Ext.new w _).block h)).mono ?_
      rintro e w1 ⟨rfl, rfl⟩
      simp only [show ((6 : Int) == 0) = false from rfl]
      generalize hW : w.alloc _ = W
      have kb := (show W.heap[b]? = some (.cells #[.int .u64 idle, .int .u64 wait, .int .u8 6, .bool o1, .bool o2, .bool o3, .int .u32 o4, .int .u32 o5, .int .u16 o6, .bool i1, .bool i2, .bool i3, .int .u32 i4, .int .u32 i5, .int .u16 i6, .int .u64 last, .bool shut, .int .u64 since] 63) by rw [← hW]; exact (Ext.new w _).block h)
      have kp := (show W.heap[w.heap.size]? = some (.cells #[h0, h1, h2, h3, .int .u8 6, h5, h6, h7, sp, dp, .int .u32 q, .int .u32 k, .int .u8 f, .int .u16 win, ug, op, .slice a n c, r0, r1, r2, r3, r4, r5, r6] 46) by rw [← hW]; exact heap_alloc_new w _)
      have hxW : Ext w W := by rw [← hW]; exact Ext.new w _
      clear hW
      have c2 := cell_blk kb 2
      have p4 := cell_blk kp 4
      simp at c2 p4
      go_wp2_with fail
      go_region
      have hxV := hxW.dr
      have kb := (Ext.rfl' W).dr.block kb
      have kp := (Ext.rfl' W).dr.block kp
      generalize W.drew = V at *
      have c15 := cell_blk kb 15
      have cs := cell_blk kb 9
      simp at c15 cs
      have fz := fz_blk kb
      clear c2 p4
      go_wp2_with fail
      have kb2 := set_blk (set_blk kb 15 (.int .u64 mx)) 9 (.bool true)
      have kp2 := set_oth (set_oth kp hpb 15 (.int .u64 mx)) hpb 9 (.bool true)
      have hm2 : Mvs (fun j => j = b) w _ := (Mvs.ofExt hxV).tr ((Mvs.set (S := fun j => j = b) V ⟨b, 15, none⟩ (.int .u64 mx) rfl).tr (Mvs.set (S := fun j => j = b) _ ⟨b, 9, none⟩ (.bool true) rfl))
      generalize (V.setCell ⟨b, 15, none⟩ (.int .u64 mx)).setCell ⟨b, 9, none⟩ (.bool true) = V2 at *
      clear c15 cs fz kb kp
      have kb2 : V2.heap[b]? = some (.cells #[.int .u64 idle, .int .u64 wait, .int .u8 6, .bool o1, .bool o2, .bool o3, .int .u32 o4, .int .u32 o5, .int .u16 o6, .bool true, .bool i2, .bool i3, .int .u32 i4, .int .u32 i5, .int .u16 i6, .int .u64 mx, .bool shut, .int .u64 since] 63) := kb2
      have p8 := cell_blk kp2 8
      have p9 := cell_blk kp2 9
      have p10 := cell_blk kp2 10
      have p11 := cell_blk kp2 11
      have p12 := cell_blk kp2 12
      have p13 := cell_blk kp2 13
      have p14 := cell_blk kp2 14
      have p15 := cell_blk kp2 15
      have p16 := cell_blk kp2 16
      simp at p8 p9 p10 p11 p12 p13 p14 p15 p16
      have c2 := cell_blk kb2 2
      have d0 := cell_blk kb2 3
      have d1 := cell_blk kb2 4
      have d2 := cell_blk kb2 5
      have d3 := cell_blk kb2 6
      have d4 := cell_blk kb2 7
      have d5 := cell_blk kb2 8
      simp at c2 d0 d1 d2 d3 d4 d5
      have hw1 : IntKind.i64.wrap 1 = 1 := by decide
      have hw0 : IntKind.i64.wrap 0 = 0 := by decide
      refine wp_region_tail 20 [] lasts_nil (by kernel_rfl) (by kernel_rfl) (by kernel_rfl) ?_
      simp only [List.take, List.drop]
      iterate 4
        apply wpL_none rfl rfl
        · intro w' hw' hn'; have c2 := Ext.cell hw' c2; go_simp; exact rfl
        intro K hK; go_simp; refine hK _ _ ?_; clear hK K
      iterate 3
        apply wpL_none rfl rfl
        · intro w' hw' hn'; go_simp; exact rfl
        intro K hK; go_simp; refine hK _ _ ?_; clear hK K
      iterate 1
        apply wpL_none rfl rfl
        · intro w' hw' hn'; have p8 := Ext.cell hw' p8; have p9 := Ext.cell hw' p9; have p10 := Ext.cell hw' p10; have p11 := Ext.cell hw' p11; have p12 := Ext.cell hw' p12; have p13 := Ext.cell hw' p13; have p14 := Ext.cell hw' p14; have p15 := Ext.cell hw' p15; have p16 := Ext.cell hw' p16; go_simp; exact rfl
        intro K hK; go_simp; refine hK _ _ ?_; clear hK K
      iterate 11
        apply wpL_none rfl rfl
        · intro w' hw' hn'; go_simp; exact rfl
        intro K hK; go_simp; refine hK _ _ ?_; clear hK K
      iterate 1
        apply wpL_none rfl rfl
        · intro w' hw' hn'; have d0 := Ext.cell hw' d0; have d1 := Ext.cell hw' d1; have d2 := Ext.cell hw' d2; have d3 := Ext.cell hw' d3; have d4 := Ext.cell hw' d4; have d5 := Ext.cell hw' d5; go_simp; exact rfl
        intro K hK; go_simp; refine hK _ _ ?_; clear hK K
      refine wpL_nil ?_
      intro w' hw' hD'
      have kb2 := Ext.block hw' kb2
      clear hD' c2 p8 p9 p10 p11 p12 p13 p14 p15 p16 d0 d1 d2 d3 d4 d5
      apply wpVL_step rfl
      intro K hK
      go_simp
      refine (HS _ kb2).mono ?_
      rintro e V3 ⟨rfl, kb3, hm3⟩
      have hm3 := hm2.tr ((Mvs.ofExt hw').tr hm3)
      refine ⟨_, rfl, hK _ _ ?_⟩
      clear hK K HS
      iterate 2
        apply wpVL_step rfl
        intro K hK
        go_simp
        refine hK _ _ ?_
        clear hK K
      refine wpVL_nil ?_
      have g3 := cell_blk kb3 3
      have g4 := cell_blk kb3 4
      have g5 := cell_blk kb3 5
      have g6 := cell_blk kb3 6
      have g7 := cell_blk kb3 7
      have g8 := cell_blk kb3 8
      have g9 := cell_blk kb3 9
      have g10 := cell_blk kb3 10
      have g11 := cell_blk kb3 11
      have g12 := cell_blk kb3 12
      have g13 := cell_blk kb3 13
      have g14 := cell_blk kb3 14
      have g15 := cell_blk kb3 15
      have g16 := cell_blk kb3 16
      have g17 := cell_blk kb3 17
      simp at g3 g4 g5 g6 g7 g8 g9 g10 g11 g12 g13 g14 g15 g16 g17
      cases b1
      · go_wp2_with fail
        refine wp_region_grow [(11, is (.bool false)), (24, is (.bool b2))] (lasts_is (lasts_is lasts_nil)) (by kernel_rfl) (by kernel_rfl) ?_
        iterate 5
          apply wpL_none rfl rfl
          · intro w' hw' hn'; go_simp; exact rfl
          intro K hK; go_simp; refine hK _ _ ?_; clear hK K
        iterate 1
          apply wpL_none rfl rfl
          · intro w' hw' hn'; have g3 := Ext.cell hw' g3; have g4 := Ext.cell hw' g4; have g5 := Ext.cell hw' g5; have g6 := Ext.cell hw' g6; have g7 := Ext.cell hw' g7; have g8 := Ext.cell hw' g8; go_simp; exact rfl
          intro K hK; go_simp; refine hK _ _ ?_; clear hK K
        iterate 4
          apply wpL_none rfl rfl
          · intro w' hw' hn'; go_simp; exact rfl
          intro K hK; go_simp; refine hK _ _ ?_; clear hK K
        iterate 1
          apply wpL_none rfl rfl
          · intro w' hw' hn'; have g9 := Ext.cell hw' g9; have g10 := Ext.cell hw' g10; have g11 := Ext.cell hw' g11; have g12 := Ext.cell hw' g12; have g13 := Ext.cell hw' g13; have g14 := Ext.cell hw' g14; go_simp; exact rfl
          intro K hK; go_simp; refine hK _ _ ?_; clear hK K
        apply wpL_some rfl rfl
        · intro w' hw' hn'
          go_simp
          refine ⟨Ext.rfl' _, ?_⟩
          refine (hB1 _).mono ?_
          rintro e w2 ⟨rfl, hx⟩
          exact ⟨_, rfl, hx, rfl⟩
        intro v w' hw' hD' hv
        obtain rfl : v = _ := hv
        clear hw' hD' w'
        intro K hK; go_simp; refine hK _ _ ?_; clear hK K
        iterate 1
          apply wpL_none rfl rfl
          · intro w' hw' hn'; go_simp; exact rfl
          intro K hK; go_simp; refine hK _ _ ?_; clear hK K
        iterate 12
          with_reducible refine wpL_skip ?_ ?_
          · rfl
          intro K hK; go_simp; refine hK _ _ ?_; clear hK K
        iterate 2
          apply wpL_none rfl rfl
          · intro w' hw' hn'; go_simp; exact rfl
          intro K hK; go_simp; refine hK _ _ ?_; clear hK K
        refine wpL_nil ?_
        intro w' hw' hD'
        clear hD' g3 g4 g5 g6 g7 g8 g9 g10 g11 g12 g13 g14 g15 g16 g17
        have kb4 := Ext.block hw' kb3
        have hm4 := hm3.tr (Mvs.ofExt hw')
        have g15 := cell_blk kb4 15
        have g16 := cell_blk kb4 16
        have g17 := cell_blk kb4 17
        simp at g15 g16 g17
        have fz4 := fz_blk kb4
        clear hB1 hB2
        have kb5 := set_blk (set_blk kb4 16 (.bool true)) 17 (.int .u64 mx)
        have hm5 : Mvs (fun j => j = b) w _ := hm4.tr ((Mvs.set (S := fun j => j = b) w' ⟨b, 16, none⟩ (.bool true) rfl).tr (Mvs.set (S := fun j => j = b) _ ⟨b, 17, none⟩ (.int .u64 mx) rfl))
        cases shut <;> cases rst
        all_goals
          go_wp2
          go_ret
          first | exact ⟨rfl, kb5, hm5⟩ | exact ⟨rfl, kb4, hm4⟩
      · go_wp2_with fail
        refine wp_region_grow [(11, is (.bool true)), (24, is (.bool b2))] (lasts_is (lasts_is lasts_nil)) (by kernel_rfl) (by kernel_rfl) ?_
        iterate 5
          apply wpL_none rfl rfl
          · intro w' hw' hn'; go_simp; exact rfl
          intro K hK; go_simp; refine hK _ _ ?_; clear hK K
        iterate 1
          apply wpL_none rfl rfl
          · intro w' hw' hn'; have g3 := Ext.cell hw' g3; have g4 := Ext.cell hw' g4; have g5 := Ext.cell hw' g5; have g6 := Ext.cell hw' g6; have g7 := Ext.cell hw' g7; have g8 := Ext.cell hw' g8; go_simp; exact rfl
          intro K hK; go_simp; refine hK _ _ ?_; clear hK K
        iterate 4
          apply wpL_none rfl rfl
          · intro w' hw' hn'; go_simp; exact rfl
          intro K hK; go_simp; refine hK _ _ ?_; clear hK K
        iterate 1
          apply wpL_none rfl rfl
          · intro w' hw' hn'; have g9 := Ext.cell hw' g9; have g10 := Ext.cell hw' g10; have g11 := Ext.cell hw' g11; have g12 := Ext.cell hw' g12; have g13 := Ext.cell hw' g13; have g14 := Ext.cell hw' g14; go_simp; exact rfl
          intro K hK; go_simp; refine hK _ _ ?_; clear hK K
        apply wpL_some rfl rfl
        · intro w' hw' hn'
          go_simp
          refine ⟨Ext.rfl' _, ?_⟩
          refine (hB1 _).mono ?_
          rintro e w2 ⟨rfl, hx⟩
          exact ⟨_, rfl, hx, rfl⟩
        intro v w' hw' hD' hv
        obtain rfl : v = _ := hv
        clear hw' hD' w'
        intro K hK; go_simp; refine hK _ _ ?_; clear hK K
        iterate 1
          apply wpL_none rfl rfl
          · intro w' hw' hn'; go_simp; exact rfl
          intro K hK; go_simp; refine hK _ _ ?_; clear hK K
        iterate 5
          apply wpL_none rfl rfl
          · intro w' hw' hn'; go_simp; exact rfl
          intro K hK; go_simp; refine hK _ _ ?_; clear hK K
        iterate 1
          apply wpL_none rfl rfl
          · intro w' hw' hn'; have g9 := Ext.cell hw' g9; have g10 := Ext.cell hw' g10; have g11 := Ext.cell hw' g11; have g12 := Ext.cell hw' g12; have g13 := Ext.cell hw' g13; have g14 := Ext.cell hw' g14; go_simp; exact rfl
          intro K hK; go_simp; refine hK _ _ ?_; clear hK K
        iterate 4
          apply wpL_none rfl rfl
          · intro w' hw' hn'; go_simp; exact rfl
          intro K hK; go_simp; refine hK _ _ ?_; clear hK K
        iterate 1
          apply wpL_none rfl rfl
          · intro w' hw' hn'; have g3 := Ext.cell hw' g3; have g4 := Ext.cell hw' g4; have g5 := Ext.cell hw' g5; have g6 := Ext.cell hw' g6; have g7 := Ext.cell hw' g7; have g8 := Ext.cell hw' g8; go_simp; exact rfl
          intro K hK; go_simp; refine hK _ _ ?_; clear hK K
        apply wpL_some rfl rfl
        · intro w' hw' hn'
          go_simp
          refine ⟨Ext.rfl' _, ?_⟩
          refine (hB2 _).mono ?_
          rintro e w2 ⟨rfl, hx⟩
          exact ⟨_, rfl, hx, rfl⟩
        intro v w' hw' hD' hv
        obtain rfl : v = _ := hv
        clear hw' hD' w'
        intro K hK; go_simp; refine hK _ _ ?_; clear hK K
        iterate 2
          apply wpL_none rfl rfl
          · intro w' hw' hn'; go_simp; exact rfl
          intro K hK; go_simp; refine hK _ _ ?_; clear hK K
        refine wpL_nil ?_
        intro w' hw' hD'
        clear hD' g3 g4 g5 g6 g7 g8 g9 g10 g11 g12 g13 g14 g15 g16 g17
        have kb4 := Ext.block hw' kb3
        have hm4 := hm3.tr (Mvs.ofExt hw')
        have g15 := cell_blk kb4 15
        have g16 := cell_blk kb4 16
        have g17 := cell_blk kb4 17
        simp at g15 g16 g17
        have fz4 := fz_blk kb4
        clear hB1 hB2
        have kb5 := set_blk (set_blk kb4 16 (.bool true)) 17 (.int .u64 mx)
        have hm5 : Mvs (fun j => j = b) w _ := hm4.tr ((Mvs.set (S := fun j => j = b) w' ⟨b, 16, none⟩ (.bool true) rfl).tr (Mvs.set (S := fun j => j = b) _ ⟨b, 17, none⟩ (.int .u64 mx) rfl))
        cases shut <;> cases b2 <;> cases rst
        all_goals
          go_wp2
          go_ret
          first | exact ⟨rfl, kb5, hm5⟩ | exact ⟨rfl, kb4, hm4⟩
  · have hq6' : (pp == 6) = false := by simp [hq6]
    cases ins
    · simp only [take2, hq6, Fl.set, Fl.side, Bool.false_eq_true, if_false]
      have ho3 : Sd.ok ⟨true, o2, o3, o4, o5, o6⟩ := hmo
      have hi3 : Sd.ok ⟨i1, i2, i3, i4, i5, i6⟩ := hmi
      have hB1 := fun (w : World) => over_any ⟨true, o2, o3, o4, o5, o6⟩ ⟨i1, i2, i3, i4, i5, i6⟩ w ho3 hi3
      have hB2 := fun (w : World) => over_any ⟨i1, i2, i3, i4, i5, i6⟩ ⟨true, o2, o3, o4, o5, o6⟩ w hi3 ho3
      simp only [take3]
      generalize overM (⟨true, o2, o3, o4, o5, o6⟩ : Sd) ⟨i1, i2, i3, i4, i5, i6⟩ = b1 at *
      generalize overM (⟨i1, i2, i3, i4, i5, i6⟩ : Sd) ⟨true, o2, o3, o4, o5, o6⟩ = b2 at *
      simp only [Sd.v] at hB1 hB2
      clear ho3 hi3
      go_enter Tryd.func10, Tryd.ntmps10
      go_wp2_with fail
      refine (none_any b ⟨idle, wait, pp, ⟨o1, o2, o3, o4, o5, o6⟩, ⟨i1, i2, i3, i4, i5, i6⟩, last, shut, since⟩ _ ((Ext.new w _).block h)).mono ?_
      rintro e w1 ⟨rfl, rfl⟩
      simp only [hp']
      generalize hW : w.alloc _ = W
      have kb := (show W.heap[b]? = some (.cells #[.int .u64 idle, .int .u64 wait, .int .u8 pp, .bool o1, .bool o2, .bool o3, .int .u32 o4, .int .u32 o5, .int .u16 o6, .bool i1, .bool i2, .bool i3, .int .u32 i4, .int .u32 i5, .int .u16 i6, .int .u64 last, .bool shut, .int .u64 since] 63) by rw [← hW]; exact (Ext.new w _).block h)
      have kp := (show W.heap[w.heap.size]? = some (.cells #[h0, h1, h2, h3, .int .u8 pp, h5, h6, h7, sp, dp, .int .u32 q, .int .u32 k, .int .u8 f, .int .u16 win, ug, op, .slice a n c, r0, r1, r2, r3, r4, r5, r6] 46) by rw [← hW]; exact heap_alloc_new w _)
      have hxW : Ext w W := by rw [← hW]; exact Ext.new w _
      clear hW
      have c2 := cell_blk kb 2
      have p4 := cell_blk kp 4
      simp at c2 p4
      go_wp2_with fail
      go_region
      have hxV := hxW.dr
      have kb := (Ext.rfl' W).dr.block kb
      have kp := (Ext.rfl' W).dr.block kp
      generalize W.drew = V at *
      have c15 := cell_blk kb 15
      have cs := cell_blk kb 3
      simp at c15 cs
      have fz := fz_blk kb
      clear c2 p4
      go_wp2_with fail
      have kb2 := set_blk (set_blk kb 15 (.int .u64 mx)) 3 (.bool true)
      have kp2 := set_oth (set_oth kp hpb 15 (.int .u64 mx)) hpb 3 (.bool true)
      have hm2 : Mvs (fun j => j = b) w _ := (Mvs.ofExt hxV).tr ((Mvs.set (S := fun j => j = b) V ⟨b, 15, none⟩ (.int .u64 mx) rfl).tr (Mvs.set (S := fun j => j = b) _ ⟨b, 3, none⟩ (.bool true) rfl))
      generalize (V.setCell ⟨b, 15, none⟩ (.int .u64 mx)).setCell ⟨b, 3, none⟩ (.bool true) = V2 at *
      clear c15 cs fz kb kp
      have kb2 : V2.heap[b]? = some (.cells #[.int .u64 idle, .int .u64 wait, .int .u8 pp, .bool true, .bool o2, .bool o3, .int .u32 o4, .int .u32 o5, .int .u16 o6, .bool i1, .bool i2, .bool i3, .int .u32 i4, .int .u32 i5, .int .u16 i6, .int .u64 mx, .bool shut, .int .u64 since] 63) := kb2
      have c2 := cell_blk kb2 2
      simp at c2
      go_region
      have kb3 := (Ext.rfl' V2).dr.block kb2
      have hm3 := hm2.tr (Mvs.ofExt (Ext.rfl' V2).dr)
      clear c2
      generalize V2.drew = V3 at *
      have g3 := cell_blk kb3 3
      have g4 := cell_blk kb3 4
      have g5 := cell_blk kb3 5
      have g6 := cell_blk kb3 6
      have g7 := cell_blk kb3 7
      have g8 := cell_blk kb3 8
      have g9 := cell_blk kb3 9
      have g10 := cell_blk kb3 10
      have g11 := cell_blk kb3 11
      have g12 := cell_blk kb3 12
      have g13 := cell_blk kb3 13
      have g14 := cell_blk kb3 14
      have g15 := cell_blk kb3 15
      have g16 := cell_blk kb3 16
      have g17 := cell_blk kb3 17
      simp at g3 g4 g5 g6 g7 g8 g9 g10 g11 g12 g13 g14 g15 g16 g17
      cases b1
      · go_wp2_with fail
        refine wp_region_grow [(11, is (.bool false)), (24, is (.bool b2))] (lasts_is (lasts_is lasts_nil)) (by kernel_rfl) (by kernel_rfl) ?_
        iterate 5
          apply wpL_none rfl rfl
          · intro w' hw' hn'; go_simp; exact rfl
          intro K hK; go_simp; refine hK _ _ ?_; clear hK K
        iterate 1
          apply wpL_none rfl rfl
          · intro w' hw' hn'; have g3 := Ext.cell hw' g3; have g4 := Ext.cell hw' g4; have g5 := Ext.cell hw' g5; have g6 := Ext.cell hw' g6; have g7 := Ext.cell hw' g7; have g8 := Ext.cell hw' g8; go_simp; exact rfl
          intro K hK; go_simp; refine hK _ _ ?_; clear hK K
        iterate 4
          apply wpL_none rfl rfl
          · intro w' hw' hn'; go_simp; exact rfl
          intro K hK; go_simp; refine hK _ _ ?_; clear hK K
        iterate 1
          apply wpL_none rfl rfl
          · intro w' hw' hn'; have g9 := Ext.cell hw' g9; have g10 := Ext.cell hw' g10; have g11 := Ext.cell hw' g11; have g12 := Ext.cell hw' g12; have g13 := Ext.cell hw' g13; have g14 := Ext.cell hw' g14; go_simp; exact rfl
          intro K hK; go_simp; refine hK _ _ ?_; clear hK K
        apply wpL_some rfl rfl
        · intro w' hw' hn'
          go_simp
          refine ⟨Ext.rfl' _, ?_⟩
          refine (hB1 _).mono ?_
          rintro e w2 ⟨rfl, hx⟩
          exact ⟨_, rfl, hx, rfl⟩
        intro v w' hw' hD' hv
        obtain rfl : v = _ := hv
        clear hw' hD' w'
        intro K hK; go_simp; refine hK _ _ ?_; clear hK K
        iterate 1
          apply wpL_none rfl rfl
          · intro w' hw' hn'; go_simp; exact rfl
          intro K hK; go_simp; refine hK _ _ ?_; clear hK K
        iterate 12
          with_reducible refine wpL_skip ?_ ?_
          · rfl
          intro K hK; go_simp; refine hK _ _ ?_; clear hK K
        iterate 2
          apply wpL_none rfl rfl
          · intro w' hw' hn'; go_simp; exact rfl
          intro K hK; go_simp; refine hK _ _ ?_; clear hK K
        refine wpL_nil ?_
        intro w' hw' hD'
        clear hD' g3 g4 g5 g6 g7 g8 g9 g10 g11 g12 g13 g14 g15 g16 g17
        have kb4 := Ext.block hw' kb3
        have hm4 := hm3.tr (Mvs.ofExt hw')
        have g15 := cell_blk kb4 15
        have g16 := cell_blk kb4 16
        have g17 := cell_blk kb4 17
        simp at g15 g16 g17
        have fz4 := fz_blk kb4
        clear hB1 hB2
        have kb5 := set_blk (set_blk kb4 16 (.bool true)) 17 (.int .u64 mx)
        have hm5 : Mvs (fun j => j = b) w _ := hm4.tr ((Mvs.set (S := fun j => j = b) w' ⟨b, 16, none⟩ (.bool true) rfl).tr (Mvs.set (S := fun j => j = b) _ ⟨b, 17, none⟩ (.int .u64 mx) rfl))
        cases shut <;> skip
        all_goals
          go_wp2
          go_ret
          first | exact ⟨rfl, kb5, hm5⟩ | exact ⟨rfl, kb4, hm4⟩
      · go_wp2_with fail
        refine wp_region_grow [(11, is (.bool true)), (24, is (.bool b2))] (lasts_is (lasts_is lasts_nil)) (by kernel_rfl) (by kernel_rfl) ?_
        iterate 5
          apply wpL_none rfl rfl
          · intro w' hw' hn'; go_simp; exact rfl
          intro K hK; go_simp; refine hK _ _ ?_; clear hK K
        iterate 1
          apply wpL_none rfl rfl
          · intro w' hw' hn'; have g3 := Ext.cell hw' g3; have g4 := Ext.cell hw' g4; have g5 := Ext.cell hw' g5; have g6 := Ext.cell hw' g6; have g7 := Ext.cell hw' g7; have g8 := Ext.cell hw' g8; go_simp; exact rfl
          intro K hK; go_simp; refine hK _ _ ?_; clear hK K
        iterate 4
          apply wpL_none rfl rfl
          · intro w' hw' hn'; go_simp; exact rfl
          intro K hK; go_simp; refine hK _ _ ?_; clear hK K
        iterate 1
          apply wpL_none rfl rfl
          · intro w' hw' hn'; have g9 := Ext.cell hw' g9; have g10 := Ext.cell hw' g10; have g11 := Ext.cell hw' g11; have g12 := Ext.cell hw' g12; have g13 := Ext.cell hw' g13; have g14 := Ext.cell hw' g14; go_simp; exact rfl
          intro K hK; go_simp; refine hK _ _ ?_; clear hK K
        apply wpL_some rfl rfl
        · intro w' hw' hn'
          go_simp
          refine ⟨Ext.rfl' _, ?_⟩
          refine (hB1 _).mono ?_
          rintro e w2 ⟨rfl, hx⟩
          exact ⟨_, rfl, hx, rfl⟩
        intro v w' hw' hD' hv
        obtain rfl : v = _ := hv
        clear hw' hD' w'
        intro K hK; go_simp; refine hK _ _ ?_; clear hK K
        iterate 1
          apply wpL_none rfl rfl
          · intro w' hw' hn'; go_simp; exact rfl
          intro K hK; go_simp; refine hK _ _ ?_; clear hK K
        iterate 5
          apply wpL_none rfl rfl
          · intro w' hw' hn'; go_simp; exact rfl
          intro K hK; go_simp; refine hK _ _ ?_; clear hK K
        iterate 1
          apply wpL_none rfl rfl
          · intro w' hw' hn'; have g9 := Ext.cell hw' g9; have g10 := Ext.cell hw' g10; have g11 := Ext.cell hw' g11; have g12 := Ext.cell hw' g12; have g13 := Ext.cell hw' g13; have g14 := Ext.cell hw' g14; go_simp; exact rfl
          intro K hK; go_simp; refine hK _ _ ?_; clear hK K
        iterate 4
          apply wpL_none rfl rfl
          · intro w' hw' hn'; go_simp; exact rfl
          intro K hK; go_simp; refine hK _ _ ?_; clear hK K
        iterate 1
          apply wpL_none rfl rfl
          · intro w' hw' hn'; have g3 := Ext.cell hw' g3; have g4 := Ext.cell hw' g4; have g5 := Ext.cell hw' g5; have g6 := Ext.cell hw' g6; have g7 := Ext.cell hw' g7; have g8 := Ext.cell hw' g8; go_simp; exact rfl
          intro K hK; go_simp; refine hK _ _ ?_; clear hK K
        apply wpL_some rfl rfl
        · intro w' hw' hn'
          go_simp
          refine ⟨Ext.rfl' _, ?_⟩
          refine (hB2 _).mono ?_
          rintro e w2 ⟨rfl, hx⟩
          exact ⟨_, rfl, hx, rfl⟩
        intro v w' hw' hD' hv
        obtain rfl : v = _ := hv
        clear hw' hD' w'
        intro K hK; go_simp; refine hK _ _ ?_; clear hK K
        iterate 2
          apply wpL_none rfl rfl
          · intro w' hw' hn'; go_simp; exact rfl
          intro K hK; go_simp; refine hK _ _ ?_; clear hK K
        refine wpL_nil ?_
        intro w' hw' hD'
        clear hD' g3 g4 g5 g6 g7 g8 g9 g10 g11 g12 g13 g14 g15 g16 g17
        have kb4 := Ext.block hw' kb3
        have hm4 := hm3.tr (Mvs.ofExt hw')
        have g15 := cell_blk kb4 15
        have g16 := cell_blk kb4 16
        have g17 := cell_blk kb4 17
        simp at g15 g16 g17
        have fz4 := fz_blk kb4
        clear hB1 hB2
        have kb5 := set_blk (set_blk kb4 16 (.bool true)) 17 (.int .u64 mx)
        have hm5 : Mvs (fun j => j = b) w _ := hm4.tr ((Mvs.set (S := fun j => j = b) w' ⟨b, 16, none⟩ (.bool true) rfl).tr (Mvs.set (S := fun j => j = b) _ ⟨b, 17, none⟩ (.int .u64 mx) rfl))
        cases shut <;> cases b2 <;> skip
        all_goals
          go_wp2
          go_ret
          first | exact ⟨rfl, kb5, hm5⟩ | exact ⟨rfl, kb4, hm4⟩
    · simp only [take2, hq6, Fl.set, Fl.side, if_false, if_true]
      have ho3 : Sd.ok ⟨o1, o2, o3, o4, o5, o6⟩ := hmo
      have hi3 : Sd.ok ⟨true, i2, i3, i4, i5, i6⟩ := hmi
      have hB1 := fun (w : World) => over_any ⟨o1, o2, o3, o4, o5, o6⟩ ⟨true, i2, i3, i4, i5, i6⟩ w ho3 hi3
      have hB2 := fun (w : World) => over_any ⟨true, i2, i3, i4, i5, i6⟩ ⟨o1, o2, o3, o4, o5, o6⟩ w hi3 ho3
      simp only [take3]
      generalize overM (⟨o1, o2, o3, o4, o5, o6⟩ : Sd) ⟨true, i2, i3, i4, i5, i6⟩ = b1 at *
      generalize overM (⟨true, i2, i3, i4, i5, i6⟩ : Sd) ⟨o1, o2, o3, o4, o5, o6⟩ = b2 at *
      simp only [Sd.v] at hB1 hB2
      clear ho3 hi3
      go_enter Tryd.func10, Tryd.ntmps10
      go_wp2_with fail
      refine (none_any b ⟨idle, wait, pp, ⟨o1, o2, o3, o4, o5, o6⟩, ⟨i1, i2, i3, i4, i5, i6⟩, last, shut, since⟩ _ ((Ext.new w _).block h)).mono ?_
      rintro e w1 ⟨rfl, rfl⟩
      simp only [hp']
      generalize hW : w.alloc _ = W
      have kb := (show W.heap[b]? = some (.cells #[.int .u64 idle, .int .u64 wait, .int .u8 pp, .bool o1, .bool o2, .bool o3, .int .u32 o4, .int .u32 o5, .int .u16 o6, .bool i1, .bool i2, .bool i3, .int .u32 i4, .int .u32 i5, .int .u16 i6, .int .u64 last, .bool shut, .int .u64 since] 63) by rw [← hW]; exact (Ext.new w _).block h)
      have kp := (show W.heap[w.heap.size]? = some (.cells #[h0, h1, h2, h3, .int .u8 pp, h5, h6, h7, sp, dp, .int .u32 q, .int .u32 k, .int .u8 f, .int .u16 win, ug, op, .slice a n c, r0, r1, r2, r3, r4, r5, r6] 46) by rw [← hW]; exact heap_alloc_new w _)
      have hxW : Ext w W := by rw [← hW]; exact Ext.new w _
      clear hW
      have c2 := cell_blk kb 2
      have p4 := cell_blk kp 4
      simp at c2 p4
      go_wp2_with fail
      go_region
      have hxV := hxW.dr
      have kb := (Ext.rfl' W).dr.block kb
      have kp := (Ext.rfl' W).dr.block kp
      generalize W.drew = V at *
      have c15 := cell_blk kb 15
      have cs := cell_blk kb 9
      simp at c15 cs
      have fz := fz_blk kb
      clear c2 p4
      go_wp2_with fail
      have kb2 := set_blk (set_blk kb 15 (.int .u64 mx)) 9 (.bool true)
      have kp2 := set_oth (set_oth kp hpb 15 (.int .u64 mx)) hpb 9 (.bool true)
      have hm2 : Mvs (fun j => j = b) w _ := (Mvs.ofExt hxV).tr ((Mvs.set (S := fun j => j = b) V ⟨b, 15, none⟩ (.int .u64 mx) rfl).tr (Mvs.set (S := fun j => j = b) _ ⟨b, 9, none⟩ (.bool true) rfl))
      generalize (V.setCell ⟨b, 15, none⟩ (.int .u64 mx)).setCell ⟨b, 9, none⟩ (.bool true) = V2 at *
      clear c15 cs fz kb kp
      have kb2 : V2.heap[b]? = some (.cells #[.int .u64 idle, .int .u64 wait, .int .u8 pp, .bool o1, .bool o2, .bool o3, .int .u32 o4, .int .u32 o5, .int .u16 o6, .bool true, .bool i2, .bool i3, .int .u32 i4, .int .u32 i5, .int .u16 i6, .int .u64 mx, .bool shut, .int .u64 since] 63) := kb2
      have c2 := cell_blk kb2 2
      simp at c2
      go_region
      have kb3 := (Ext.rfl' V2).dr.block kb2
      have hm3 := hm2.tr (Mvs.ofExt (Ext.rfl' V2).dr)
      clear c2
      generalize V2.drew = V3 at *
      have g3 := cell_blk kb3 3
      have g4 := cell_blk kb3 4
      have g5 := cell_blk kb3 5
      have g6 := cell_blk kb3 6
      have g7 := cell_blk kb3 7
      have g8 := cell_blk kb3 8
      have g9 := cell_blk kb3 9
      have g10 := cell_blk kb3 10
      have g11 := cell_blk kb3 11
      have g12 := cell_blk kb3 12
      have g13 := cell_blk kb3 13
      have g14 := cell_blk kb3 14
      have g15 := cell_blk kb3 15
      have g16 := cell_blk kb3 16
      have g17 := cell_blk kb3 17
      simp at g3 g4 g5 g6 g7 g8 g9 g10 g11 g12 g13 g14 g15 g16 g17
      cases b1
      · go_wp2_with fail
        refine wp_region_grow [(11, is (.bool false)), (24, is (.bool b2))] (lasts_is (lasts_is lasts_nil)) (by kernel_rfl) (by kernel_rfl) ?_
        iterate 5
          apply wpL_none rfl rfl
          · intro w' hw' hn'; go_simp; exact rfl
          intro K hK; go_simp; refine hK _ _ ?_; clear hK K
        iterate 1
          apply wpL_none rfl rfl
          · intro w' hw' hn'; have g3 := Ext.cell hw' g3; have g4 := Ext.cell hw' g4; have g5 := Ext.cell hw' g5; have g6 := Ext.cell hw' g6; have g7 := Ext.cell hw' g7; have g8 := Ext.cell hw' g8; go_simp; exact rfl
          intro K hK; go_simp; refine hK _ _ ?_; clear hK K
        iterate 4
          apply wpL_none rfl rfl
          · intro w' hw' hn'; go_simp; exact rfl
          intro K hK; go_simp; refine hK _ _ ?_; clear hK K
        iterate 1
          apply wpL_none rfl rfl
          · intro w' hw' hn'; have g9 := Ext.cell hw' g9; have g10 := Ext.cell hw' g10; have g11 := Ext.cell hw' g11; have g12 := Ext.cell hw' g12; have g13 := Ext.cell hw' g13; have g14 := Ext.cell hw' g14; go_simp; exact rfl
          intro K hK; go_simp; refine hK _ _ ?_; clear hK K
        apply wpL_some rfl rfl
        · intro w' hw' hn'
          go_simp
          refine ⟨Ext.rfl' _, ?_⟩
          refine (hB1 _).mono ?_
          rintro e w2 ⟨rfl, hx⟩
          exact ⟨_, rfl, hx, rfl⟩
        intro v w' hw' hD' hv
        obtain rfl : v = _ := hv
        clear hw' hD' w'
        intro K hK; go_simp; refine hK _ _ ?_; clear hK K
        iterate 1
          apply wpL_none rfl rfl
          · intro w' hw' hn'; go_simp; exact rfl
          intro K hK; go_simp; refine hK _ _ ?_; clear hK K
        iterate 12
          with_reducible refine wpL_skip ?_ ?_
          · rfl
          intro K hK; go_simp; refine hK _ _ ?_; clear hK K
        iterate 2
          apply wpL_none rfl rfl
          · intro w' hw' hn'; go_simp; exact rfl
          intro K hK; go_simp; refine hK _ _ ?_; clear hK K
        refine wpL_nil ?_
        intro w' hw' hD'
        clear hD' g3 g4 g5 g6 g7 g8 g9 g10 g11 g12 g13 g14 g15 g16 g17
        have kb4 := Ext.block hw' kb3
        have hm4 := hm3.tr (Mvs.ofExt hw')
        have g15 := cell_blk kb4 15
        have g16 := cell_blk kb4 16
        have g17 := cell_blk kb4 17
        simp at g15 g16 g17
        have fz4 := fz_blk kb4
        clear hB1 hB2
        have kb5 := set_blk (set_blk kb4 16 (.bool true)) 17 (.int .u64 mx)
        have hm5 : Mvs (fun j => j = b) w _ := hm4.tr ((Mvs.set (S := fun j => j = b) w' ⟨b, 16, none⟩ (.bool true) rfl).tr (Mvs.set (S := fun j => j = b) _ ⟨b, 17, none⟩ (.int .u64 mx) rfl))
        cases shut <;> skip
        all_goals
          go_wp2
          go_ret
          first | exact ⟨rfl, kb5, hm5⟩ | exact ⟨rfl, kb4, hm4⟩
      · go_wp2_with fail
        refine wp_region_grow [(11, is (.bool true)), (24, is (.bool b2))] (lasts_is (lasts_is lasts_nil)) (by kernel_rfl) (by kernel_rfl) ?_
        iterate 5
          apply wpL_none rfl rfl
          · intro w' hw' hn'; go_simp; exact rfl
          intro K hK; go_simp; refine hK _ _ ?_; clear hK K
        iterate 1
          apply wpL_none rfl rfl
          · intro w' hw' hn'; have g3 := Ext.cell hw' g3; have g4 := Ext.cell hw' g4; have g5 := Ext.cell hw' g5; have g6 := Ext.cell hw' g6; have g7 := Ext.cell hw' g7; have g8 := Ext.cell hw' g8; go_simp; exact rfl
          intro K hK; go_simp; refine hK _ _ ?_; clear hK K
        iterate 4
          apply wpL_none rfl rfl
          · intro w' hw' hn'; go_simp; exact rfl
          intro K hK; go_simp; refine hK _ _ ?_; clear hK K
        iterate 1
          apply wpL_none rfl rfl
          · intro w' hw' hn'; have g9 := Ext.cell hw' g9; have g10 := Ext.cell hw' g10; have g11 := Ext.cell hw' g11; have g12 := Ext.cell hw' g12; have g13 := Ext.cell hw' g13; have g14 := Ext.cell hw' g14; go_simp; exact rfl
          intro K hK; go_simp; refine hK _ _ ?_; clear hK K
        apply wpL_some rfl rfl
        · intro w' hw' hn'
          go_simp
          refine ⟨Ext.rfl' _, ?_⟩
          refine (hB1 _).mono ?_
          rintro e w2 ⟨rfl, hx⟩
          exact ⟨_, rfl, hx, rfl⟩
        intro v w' hw' hD' hv
        obtain rfl : v = _ := hv
        clear hw' hD' w'
        intro K hK; go_simp; refine hK _ _ ?_; clear hK K
        iterate 1
          apply wpL_none rfl rfl
          · intro w' hw' hn'; go_simp; exact rfl
          intro K hK; go_simp; refine hK _ _ ?_; clear hK K
        iterate 5
          apply wpL_none rfl rfl
          · intro w' hw' hn'; go_simp; exact rfl
          intro K hK; go_simp; refine hK _ _ ?_; clear hK K
        iterate 1
          apply wpL_none rfl rfl
          · intro w' hw' hn'; have g9 := Ext.cell hw' g9; have g10 := Ext.cell hw' g10; have g11 := Ext.cell hw' g11; have g12 := Ext.cell hw' g12; have g13 := Ext.cell hw' g13; have g14 := Ext.cell hw' g14; go_simp; exact rfl
          intro K hK; go_simp; refine hK _ _ ?_; clear hK K
        iterate 4
          apply wpL_none rfl rfl
          · intro w' hw' hn'; go_simp; exact rfl
          intro K hK; go_simp; refine hK _ _ ?_; clear hK K
        iterate 1
          apply wpL_none rfl rfl
          · intro w' hw' hn'; have g3 := Ext.cell hw' g3; have g4 := Ext.cell hw' g4; have g5 := Ext.cell hw' g5; have g6 := Ext.cell hw' g6; have g7 := Ext.cell hw' g7; have g8 := Ext.cell hw' g8; go_simp; exact rfl
          intro K hK; go_simp; refine hK _ _ ?_; clear hK K
        apply wpL_some rfl rfl
        · intro w' hw' hn'
          go_simp
          refine ⟨Ext.rfl' _, ?_⟩
          refine (hB2 _).mono ?_
          rintro e w2 ⟨rfl, hx⟩
          exact ⟨_, rfl, hx, rfl⟩
        intro v w' hw' hD' hv
        obtain rfl : v = _ := hv
        clear hw' hD' w'
        intro K hK; go_simp; refine hK _ _ ?_; clear hK K
        iterate 2
          apply wpL_none rfl rfl
          · intro w' hw' hn'; go_simp; exact rfl
          intro K hK; go_simp; refine hK _ _ ?_; clear hK K
        refine wpL_nil ?_
        intro w' hw' hD'
        clear hD' g3 g4 g5 g6 g7 g8 g9 g10 g11 g12 g13 g14 g15 g16 g17
        have kb4 := Ext.block hw' kb3
        have hm4 := hm3.tr (Mvs.ofExt hw')
        have g15 := cell_blk kb4 15
        have g16 := cell_blk kb4 16
        have g17 := cell_blk kb4 17
        simp at g15 g16 g17
        have fz4 := fz_blk kb4
        clear hB1 hB2
        have kb5 := set_blk (set_blk kb4 16 (.bool true)) 17 (.int .u64 mx)
        have hm5 : Mvs (fun j => j = b) w _ := hm4.tr ((Mvs.set (S := fun j => j = b) w' ⟨b, 16, none⟩ (.bool true) rfl).tr (Mvs.set (S := fun j => j = b) _ ⟨b, 17, none⟩ (.int .u64 mx) rfl))
        cases shut <;> cases b2 <;> skip
        all_goals
          go_wp2
          go_ret
          first | exact ⟨rfl, kb5, hm5⟩ | exact ⟨rfl, kb4, hm4⟩
end Go.Proofs.YtgknjokjpaodlaaDoor

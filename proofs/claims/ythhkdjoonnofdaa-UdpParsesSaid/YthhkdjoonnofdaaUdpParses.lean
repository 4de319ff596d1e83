/-
  Proved here: the law UdpParses returns true. Condition: each slice at most 2^47 - 4096 bytes (the form's own reach).
-/
import Derived.Test.YthhkdjoonnofdaaUdpO
namespace Go.Proofs.Ythhkdjoonnofdaa.udpParses
open Go.ChangeShapes Go.WideShapes Go.ChangeAt Go.RowKit Go.Cul
set_option linter.unusedVariables false

set_option maxHeartbeats 1000000 in
theorem walk (w : World) (cs : Array Value) (hcs : Reads w (.agg 2 (.more 1 (.int .u32) (.more 1 (.int .u32) .done))) cs.toList) (v : Value) (l : List Int) (hv : Rd .u8 w v l) (hb : Byt l) (hn : l.length * 1 ≤ 140737488351232) :
    Calls Try.prog 3 #[.agg cs, v] w fun e w' => e = .returned (.bool true) ∧ Ext w w' := by
  obtain ⟨s, d, rfl, hs, hd⟩ := open_ends hcs
  clear hcs
  obtain ⟨a, cap, rfl, hc1, hc2, hr⟩ := hv
  have hv : Rd .u8 w (.slice a l.length cap) l := ⟨a, cap, rfl, hc1, hc2, hr⟩
  obtain ⟨m, hm⟩ : ∃ m : Nat, m = min l.length 1600 := ⟨_, rfl⟩
  have hml : m ≤ l.length := by omega
  have hm16 : m ≤ 1600 := by omega
  have hv1 := hv.take hml
  have hmin : (if (1600 : Int) < (l.length : Int) then (1600 : Int) else (l.length : Int)) = (m : Int) := by split <;> omega
  have hLl : (l.take m).length = m := by rw [List.length_take]; omega
  have hb1' := hb.take m
  clear hr hb hv hm
  generalize l.take m = L at *
  go_enter Try.func3, Try.ntmps3
  go_wp2_with (at_builtin; go_must (refine wpList_app_fr isU8 rfl (.tmp 17) (.tmp 18) rfl (w.heap.size + 1) _ [] rfl (.inr ⟨_, rfl, rfl⟩) _ L rfl (hv1.ext ((Ext.new _ _).al _)) (by simp; omega) (by simp [maxLen]; omega) (by simp) ?_); intro v1 w1 hfr1 hown1 hb1; have ke : w1.heap[w.heap.size]? = some (.cells #[.int .u32 s, .int .u32 d] 24) := (Below.block hb1 _ (by omega)).trans ((Ext.new _ _).block (heap_alloc_new w _)); have e0 := cell_blk ke 0; have e1 := cell_blk ke 1; simp at e0 e1)
  rw [List.nil_append] at hfr1
  have hx1 : Ext w w1 := Below.trans ((Ext.new w _).al _) (hb1.mono (by omega))
  clear hown1 hb1
  refine (parse_any s d _ L _ hfr1.rd hb1' hs hd (by omega)).mono ?_
  rintro e w2 ⟨u2, rfl, hu2, hx2⟩
  obtain ⟨a2, n2, c2, rfl⟩ := hu2.rd.shape
  have ke2 := hx2.block ke
  have e0 := cell_blk ke2 0
  have e1 := cell_blk ke2 1
  simp at e0 e1
  generalize hE : uerr s d L = E at *
  generalize hP : (upar s d L) = P at *
  obtain ⟨sp, dp, M⟩ := P
  simp only at hu2
  have hPb := upar_bd (s := s) (d := d) hb1'
  have hMb := upar_byt (s := s) (d := d) hb1'
  have hMl := upar_len s d L
  rw [hP] at hPb hMb hMl
  have HE := Lib.hid hE
  have HP := Lib.hid hP
  have e0n := fun (o : Obj) => (Ext.new w2 o).cell e0
  have e1n := fun (o : Obj) => (Ext.new w2 o).cell e1
  clear ke hE hP
  go_wp2_with fail
  clear e0n e1n
  refine (r7parse_any s d _ L _ (hv1.ext (hx1.tr (hx2.al _))) hb1' hs hd (by omega)).mono ?_
  rw [HE.out, HP.out]
  rintro e w3 ⟨u3, rfl, hu3, hx3⟩
  obtain ⟨a3, n3, c3, rfl⟩ := hu3.rd.shape
  have hx23 : Ext w2 w3 := (Ext.new w2 _).tr hx3
  have hx13 : Ext w1 w3 := hx2.tr hx23
  have k6 := hx3.block (heap_alloc_new w2 (.cells #[.int .u16 sp, .int .u16 dp, .slice a2 n2 c2] 28))
  have f0 := cell_blk k6 0
  have f1 := cell_blk k6 1
  have f2 := cell_blk k6 2
  simp at f0 f1 f2
  have f0 := fun (o : Obj) => (Ext.new w3 o).cell f0
  have f1 := fun (o : Obj) => (Ext.new w3 o).cell f1
  have f2 := fun (o : Obj) => (Ext.new w3 o).cell f2
  go_wp2_with fail
  have hu2' := hu2.kept hx23
  refine (r7same_any sp dp sp dp _ _ M M _ (hu2'.rd.ext (Ext.new _ _)) (hu3.rd.ext (Ext.new _ _)) hMb hMb).mono ?_
  rw [usame_self]
  rintro e w4 ⟨rfl, hx4⟩
  have hx34 : Ext w3 w4 := (Ext.new _ _).tr hx4
  have k6 := hx34.block k6
  have f2 := cell_blk k6 2
  have fz := fz_blk k6 2
  have hu4 := hu2'.kept hx34
  have hMn := hu4.rd
  obtain ⟨_, _, he, -, -, -⟩ := hMn
  obtain rfl : n2 = M.length := by cases he; rfl
  have hgl : Hid (0 < M.length → ∃ g, a2 = some ⟨g, 0, none⟩ ∧ w1.heap.size ≤ g ∧ g < w2.heap.size) := fun h => by
    obtain ⟨g, cap', hv, h1, h2, -⟩ := (hu2.own h).open h
    cases hv
    exact ⟨g, rfl, h1, h2⟩
  clear he hu2 hu2' hu3
  simp at f2
  go_wp2_with fail
  go_loopw [44] (fun i wr => ∃ (k : Nat) (N : List Int), k ≤ M.length ∧ N.length = M.length ∧ i = .int .i64 k ∧ Fr wr w1.heap.size 5 .u8 (.slice a2 M.length c2) N ∧ Byt N ∧ wr.heap[w2.heap.size]? = some (.cells #[.int .u16 sp, .int .u16 dp, .slice a2 M.length c2] 28) ∧ Ext w1 wr) (fun i _ => M.length - (intOf i).toNat)
  case atStart => exact ⟨0, M, Nat.zero_le _, rfl, rfl, hu4, hMb, k6, hx13.tr hx34⟩
  case round =>
    obtain ⟨k, N, hk, hNM, rfl, hfr, hNb, k6, hxr⟩ := hrel
    by_cases hlt : k < M.length
    · obtain ⟨g, rfl, hg1, hg2⟩ := hgl.out (by omega)
      obtain ⟨g', cap', hv', -, -, hcell, hfz, -, -, hset⟩ := (hfr.own (by omega)).open (by omega)
      rw [hNM] at hv'
      cases hv'
      have cx := hcell k (by omega)
      have cf := hfz k
      have hby := hNb.at k
      have hx255 := xor255 _ hby.1 hby.2
      have hs1 := hset (255 - N.getD k 0) k (by omega)
      have hb1 := byt_set hNb k (x := 255 - N.getD k 0) (by omega)
      have k6' := set_oth k6 (b := g) (by omega) k (.int .u8 (255 - N.getD k 0))
      have hx6 : Ext w1 (wr.setCell ⟨g, k, none⟩ (.int .u8 (255 - N.getD k 0))) := Below.setCell hxr hg1 _
      have f2 := cell_blk k6 2
      simp at f2
      clear hcell hfz hset k6 hNb
      have HNM : Hid ((N.set k (255 - N.getD k 0)).length = M.length) := by unfold Hid; rw [List.length_set, hNM]
      generalize N.getD k 0 = y at *
      generalize N.set k (255 - y) = N' at *
      clear hNM hfr
      go_wp2_with fail
      go_roundw
      case rel => exact ⟨k + 1, N', by omega, HNM.out, by go_num, .inl hs1, hb1, k6', hx6⟩
      case measure => simp [intOf]; omega
    · have hrd := (hfr1.rd.ext hxr)
      clear hgl hfr hNb k6
      go_wp2_with fail
      refine (awake7_any _).mono ?_
      rintro e w5 ⟨rfl, hx5⟩
      go_wp2_with fail
      refine (beq_any _ _ L L _ (hrd.ext hx5) (hv1.ext (hx1.tr (hxr.tr hx5))) hb1' hb1').mono ?_
      rintro e w6 ⟨rfl, hx6⟩
      go_wp2
      go_ret
      exact ⟨by simp, hx1.tr (hxr.tr (hx5.tr hx6))⟩
end Go.Proofs.Ythhkdjoonnofdaa.udpParses

/-
  Proved here: what ipv4.May and ipv4.Put compute. Conditions: numbers within their kinds, at most 2^47 - 4096 bytes.
-/
import Derived.Test.YtbaidlkjbdeceaaGreatIpL
import Derived.Test.YtbaidlkjbdeceaaGreatConcat
import Derived.Test.YtbaidlkjbdeceaaGreatCore
import Derived.Test.YtbaidlkjbdeceaaGreatRegion
import Derived.Test.YtbaidlkjbdeceaaGreatSums
namespace Go.Proofs.YtbaidlkjbdeceaaGreat
set_option maxRecDepth 200000
open Go.ChangeShapes Go.WideShapes Go.ChangeAt Go.RowKit Go.Cul Go.Loose
set_option linter.unusedVariables false
attribute [local go_sem] Loose.Still Loose.Upon Loose.vUpon First.pUpon

theorem hmay_any (h : Hd) (vo : Value) (w : World) (hvo : Rd .u8 w vo h.op) (hh : h.ok) (hl : h.op.length ≤ 140737488351232) :
    Calls Tryz.prog 22 #[.agg (h.cells vo)] w fun e w' => e = .returned (.bool h.may) ∧ Ext w w' := by
  obtain ⟨a, c, rfl, -, -, -⟩ := id hvo
  have hM : Hid (h.may = (decide (0 < h.ttl) && (decide (h.op.length ≤ 40) && decide (h.op.length % 4 = 0)))) := rfl
  have ht := hh.ttl
  obtain ⟨tos, id, df, ttl, proto, src, dst, op⟩ := h
  dsimp only [Hd.cells] at *
  clear hvo hh
  by_cases h1 : 0 < ttl
  · by_cases h2 : op.length ≤ 40
    · have h2' : (op.length : Int) ≤ 40 := by omega
      rcases h3 : ((op.length : Int) % 4 == 0) with _ | _
      · have hD : Hid (Hd.may ⟨tos, id, df, ttl, proto, src, dst, op⟩ = false) := by
          unfold Hid; rw [hM.out]; simp at h3 ⊢; omega
        clear h2
        go_enter Tryz.func22, Tryz.ntmps22
        go_wp2
        go_ret
        exact ⟨by rw [hD.out]; rfl, Ext.new _ _⟩
      · have hD : Hid (Hd.may ⟨tos, id, df, ttl, proto, src, dst, op⟩ = true) := by
          unfold Hid; rw [hM.out]; simp at h3 ⊢; omega
        clear h2
        go_enter Tryz.func22, Tryz.ntmps22
        go_wp2
        go_ret
        exact ⟨by rw [hD.out]; rfl, Ext.new _ _⟩
    · have hD : Hid (Hd.may ⟨tos, id, df, ttl, proto, src, dst, op⟩ = false) := by
        unfold Hid; rw [hM.out]; simp; omega
      have h2' : ¬ (op.length : Int) ≤ 40 := by omega
      clear h2
      go_enter Tryz.func22, Tryz.ntmps22
      go_wp2
      go_ret
      exact ⟨by rw [hD.out]; rfl, Ext.new _ _⟩
  · have hD : Hid (Hd.may ⟨tos, id, df, ttl, proto, src, dst, op⟩ = false) := by
      unfold Hid; rw [hM.out]; simp; omega
    go_enter Tryz.func22, Tryz.ntmps22
    go_wp2
    go_ret
    exact ⟨by rw [hD.out]; rfl, Ext.new _ _⟩

theorem or64 (m : Nat) (h : m < 16) : bits BinOp.or IntKind.u8 64 (m : Int) = 64 + (m : Int) := by
  revert m; decide +kernel
theorem pupon_app {P : Program} {k : IntKind} {t e : TypeId} {bytes : Nat} (is : IS P k t e bytes) {o : Oper} {a : Act} {w : World} {E : List PanicEntry → World → Prop} (s x : Operand)
    (ho : o.op = .call { callee := .builtin .append, args := #[s, x], argTypes := #[t, t] }) (base : Nat) (v : Value) (l : List Int) (hs : a.eval s = v) (hv : Own w base e k v l) (u : Value) (r : List Int) (hx : a.eval x = u) (hr : Rd k w u r)
    (hlen : (l.length + r.length) * bytes ≤ 140737488355328) (h63 : l.length + r.length ≤ maxLen) (hbase : base ≤ w.heap.size) {K : Act → World → Prop}
    (h : ∀ v' w', Own w' base e k v' (l ++ r) → w.grownBy w' v.ownBlock → (v'.ownBlock = v.ownBlock ∨ v'.ownBlock = some w.heap.size) → K (a.put o.dst v') w') : First.pUpon P E o a K ((execOp a.eval o).run P w) := by
  obtain ⟨v', w', hrun, h2, h3, h4⟩ := run_app is w base o.type v l hv u r hr hlen h63 hbase
  unfold execOp
  simp only [ho, resolve, invoke, builtin, Sem.run_bind, Sem.run_pure, Result.andThen_ok, List.map_toArray, List.map_cons, List.map_nil, hs, hx, hrun, First.pUpon]
  exact h v' w' h2 h3 h4

theorem vupon_copyI {P : Program} {k : IntKind} {t e : TypeId} {bytes : Nat} (is : IS P k t e bytes) {o : Oper} {a : Act} {w : World} (s x : Operand)
    (ho : o.op = .call { callee := .builtin .copy, args := #[s, x], argTypes := #[t, t] }) (base g n cap : Nat) (l : List Int) (hown : Own w base e k (.slice (some ⟨g, 0, none⟩) n cap) l) (p m dc : Nat) (hs : a.eval s = .slice (some ⟨g, p, none⟩) m dc)
    (u : Value) (r : List Int) (hx : a.eval x = u) (hr : Rd k w u r) (hr0 : 0 < r.length) (hm : r.length ≤ m) (hp : p + m ≤ l.length) {K : Act → World → Prop}
    (h : ∀ v' w', Own w' base e k (.slice (some ⟨g, 0, none⟩) n cap) (l.take p ++ r ++ l.drop (p + r.length)) → Mvs (fun j => j = g) w w' → K (a.put o.dst v') w') : Loose.vUpon P o a K ((execOp a.eval o).run P w) := by
  obtain ⟨v', w', hrun, h2, h3⟩ := run_copy_mine is w base o.type g n cap l hown p m dc u r hr hr0 hm hp
  unfold execOp
  simp only [ho, resolve, invoke, builtin, Sem.run_bind, Sem.run_pure, Result.andThen_ok, List.map_toArray, List.map_cons, List.map_nil, hs, hx, hrun, Loose.vUpon]
  exact h v' w' h2 h3

theorem flat_two (a b : List Int) : [a, b].flatten = a ++ b := by simp

set_option maxHeartbeats 2000000 in
set_option maxRecDepth 100000 in
theorem hput_any (h : Hd) (vo vp : Value) (p : List Int) (w : World) (hh : h.ok) (hvo : Rd .u8 w vo h.op) (hvp : Rd .u8 w vp p) (hl : h.op.length ≤ 140737488351232) (hp : p.length ≤ 140737488351232) :
    Calls Tryz.prog 15 #[.agg (h.cells vo), vp] w fun e w' => ∃ u, e = .returned (.tuple #[u, .int .i64 (hput h p).2]) ∧ Own w' w.heap.size 5 .u8 u (hput h p).1 ∧ Ext w w' := by
  obtain ⟨ao, co, rfl, ho1, ho2, -⟩ := id hvo
  obtain ⟨ap, cp, rfl, hp1, hp2, -⟩ := id hvp
  unfold maxLen at ho2 hp2
  have hmay := fun (W : World) (hx : Ext w W) => hmay_any h _ W (hvo.ext hx) hh hl
  have hU : hput h p = if h.may = false then ([], 1) else if 1500 - (20 + h.op.length) < p.length then ([], 3) else (h.lay p.length (h.field p.length) ++ p, 0) := rfl
  have hml : h.may = true → h.op.length ≤ 40 ∧ h.op.length % 4 = 0 := fun hm => by
    simp [Hd.may] at hm; omega
  have HLAYB := Lib.hid (fun (hm : h.op.length ≤ 40) (hp : 20 + h.op.length + p.length ≤ 1500) => Hd.lay_byt hh hm hp (f := 0) (by omega))
  have HFB := Lib.hid (fun (hm : h.op.length ≤ 40) (hp : 20 + h.op.length + p.length ≤ 1500) => Hd.field_bd hh hm hp)
  have hlay : ∀ F, h.lay p.length F = [64 + (((20 + h.op.length) / 4 : Nat) : Int), h.tos] ++ by2 ((20 + h.op.length + p.length : Nat) : Int) ++ by2 h.id ++ by2 (if h.df then 16384 else 0) ++ [h.ttl, h.proto] ++ by2 F ++ by4 h.src ++ by4 h.dst ++ h.op := fun F => rfl
  have HLAY := Lib.hid hlay
  have hfd : h.field p.length = 65535 - csum (h.lay p.length 0) := rfl
  have HFD := Lib.hid hfd
  have hlen := Hd.lay_len h p.length
  have HLEN := Lib.hid hlen
  generalize hput h p = HP at *
  generalize h.field p.length = FLD at *
  generalize h.lay p.length = LAY at *
  generalize h.may = MAY at *
  have HU := Lib.hid hU
  have HMAY := Lib.hid hmay
  obtain ⟨tos, id, df, ttl, proto, src, dst, op⟩ := h
  obtain ⟨gtos, gid, gttl, gproto, gsrc, gdst, gop⟩ := hh
  dsimp only [Hd.cells] at *
  clear hmay hU hlay hfd hlen
  have HV := Lib.hid hvo
  have HVP := Lib.hid hvp
  clear hvo hvp
  have hx0 := Ext.new w (.cells #[.int .u8 tos, .int .u16 id, .bool df, .int .u8 ttl, .int .u8 proto, .int .u32 src, .int .u32 dst, .slice ao op.length co] 26)
  have kh := heap_alloc_new w (.cells #[.int .u8 tos, .int .u16 id, .bool df, .int .u8 ttl, .int .u8 proto, .int .u32 src, .int .u32 dst, .slice ao op.length co] 26)
  go_enter Tryz.func15, Tryz.ntmps15
  go_upto_region 1 with (fail)
  generalize hW : World.alloc w _ = W at *
  clear hW
  have e0 := cell_blk kh 0
  have e1 := cell_blk kh 1
  have e2 := cell_blk kh 2
  have e3 := cell_blk kh 3
  have e4 := cell_blk kh 4
  have e5 := cell_blk kh 5
  have e6 := cell_blk kh 6
  have e7 := cell_blk kh 7
  simp at e0 e1 e2 e3 e4 e5 e6 e7
  go_wp2_with fail
  refine (HMAY.out _ hx0).mono ?_
  rintro e w1 ⟨rfl, hx1⟩
  have kh1 := hx1.block kh
  have hx01 := hx0.tr hx1
  clear e0 e1 e2 e3 e4 e5 e6 e7 kh hx0 hx1
  cases MAY
  · have hr := Lib.hid (HU.out.trans (if_pos rfl))
    go_wp2_with fail
    go_ret2
    rw [hr.out]
    exact ⟨_, rfl, Own.nil _ _ _ _, hx01⟩
  obtain ⟨hl40, hl4⟩ := hml rfl
  have hU2 := HU.out.trans (if_neg (by simp))
  clear hml
  by_cases hlong : 1500 - (20 + op.length) < p.length
  · have hr := Lib.hid (hU2.trans (if_pos hlong))
    have hlong' : 1500 - (20 + (op.length : Int)) < (p.length : Int) := by omega
    clear hU2 hlong
    go_wp2_with fail
    go_ret2
    rw [hr.out]
    exact ⟨_, rfl, Own.nil _ _ _ _, hx01⟩
  have HRR := Lib.hid (hU2.trans (if_neg hlong))
  have hsum : 20 + op.length + p.length ≤ 1500 := by omega
  have hlong' : ¬ 1500 - (20 + (op.length : Int)) < (p.length : Int) := by omega
  clear hU2 hlong
  have HB0 := Lib.hid (HLAYB.out hl40 hsum)
  have hfb := HFB.out hl40 hsum
  clear HLAYB HFB
  obtain ⟨m, hm⟩ : ∃ m : Nat, m = (20 + op.length) / 4 := ⟨_, rfl⟩
  have hm16 : m < 16 := by omega
  have hq1 : (20 + (op.length : Int)) / 4 = (m : Int) := by omega
  have hq2 : IntKind.u8.wrap (m : Int) = (m : Int) := by rw [IntKind.wrap_u8]; omega
  have hq3 := or64 m hm16
  have hq4 : IntKind.u16.wrap (20 + (op.length : Int) + (p.length : Int)) = 20 + (op.length : Int) + (p.length : Int) := by rw [IntKind.wrap_u16]; omega
  have HMM := Lib.hid hm
  clear hm
  have e0 := cell_blk kh1 0
  have e1 := cell_blk kh1 1
  have e2 := cell_blk kh1 2
  have e3 := cell_blk kh1 3
  have e4 := cell_blk kh1 4
  have e5 := cell_blk kh1 5
  have e6 := cell_blk kh1 6
  have e7 := cell_blk kh1 7
  simp at e0 e1 e2 e3 e4 e5 e6 e7
  generalize hfl : (if df = true then (16384 : Int) else 0) = FL at *
  have hflb : 0 ≤ FL ∧ FL ≤ 65535 := by subst hfl; split <;> omega
  go_upto_if 24 with (fail)
  go_cut [7] from 9 (fun v wc => v = .int .u16 FL ∧ wc = w1)
  case first =>
    cases df
    · have hF0 : FL = 0 := hfl.symm
      go_wp2_with fail
      go_meet
      case rel => exact ⟨by rw [hF0], rfl⟩
    · have hF0 : FL = 16384 := hfl.symm
      go_wp2_with fail
      go_meet
      case rel => exact ⟨by rw [hF0], rfl⟩
  obtain ⟨rfl, rfl⟩ := hcut
  have HFL := Lib.hid hfl
  clear hfl
  obtain ⟨W1, rfl⟩ : ∃ W1 : World, W1 = wc := ⟨_, rfl⟩
  go_wp2_with fail
  have hs0 := hx01.size
  refine (wu16_any _ [64 + (m : Int), tos] (20 + (op.length : Int) + (p.length : Int)) _ (rd_new .u8 _ _ _ _ rfl rfl rfl rfl (by simp [maxLen])) (by simp) (by omega)).mono ?_
  rintro e w2 ⟨u2, rfl, hu2, hx2⟩
  have hx12 : Ext W1 w2 := (Ext.new _ _).tr hx2
  obtain ⟨a2, n2, c2, rfl⟩ := hu2.rd.shape
  have kh2 := hx12.block kh1
  clear e0 e1 e2 e3 e4 e5 e6 e7 hx2
  have e1 := cell_blk kh2 1
  simp at e1
  go_wp2_with fail
  refine (wu16_any _ _ id _ hu2.rd (by simp [by2]) gid).mono ?_
  rintro e w3 ⟨u3, rfl, hu3, hx3⟩
  obtain ⟨a3, n3, c3, rfl⟩ := hu3.rd.shape
  go_wp2_with fail
  refine (wu16_any _ _ FL _ hu3.rd (by simp [by2]) hflb).mono ?_
  rintro e w4 ⟨u4, rfl, hu4, hx4⟩
  obtain ⟨a4, n4, c4, rfl⟩ := hu4.rd.shape
  have hx04 := hx01.tr (hx12.tr (hx3.tr hx4))
  have kh4 := hx4.block (hx3.block kh2)
  have hx34 := hx4
  have hwB : w.heap.size < w3.heap.size := Nat.lt_of_lt_of_le (lt_of_block kh2) hx3.size
  have hL8 : ([64 + (m : Int), tos] ++ by2 (20 + (op.length : Int) + (p.length : Int)) ++ by2 id ++ by2 FL).length = 8 := rfl
  generalize hLx : [64 + (m : Int), tos] ++ by2 (20 + (op.length : Int) + (p.length : Int)) ++ by2 id ++ by2 FL = L at *
  have HLX := Lib.hid hLx
  have HL8 := Lib.hid hL8
  have HU4 := Lib.hid hu4
  clear hu2 hu3 hu4 hx12 hx3 hx4 kh1 kh2 e1 hLx hL8
  go_upto_region 11 with (fail)
  refine Order.wp_region_order [0, 1, 2, 3, 4, 8, 9, 11, 12] [5, 6, 7, 10, 13, 14] 15 (fun w' => w'.heap[w.heap.size]? = some (.cells #[.int .u8 tos, .int .u16 id, .bool df, .int .u8 ttl, .int .u8 proto, .int .u32 src, .int .u32 dst, .slice ao op.length co] 26)) (fun _ _ => False) ?_ (fun w' hw' => Ext.block hw' kh4) (by kernel_rfl) (by kernel_rfl) (by kernel_rfl) rfl (by kernel_rfl) ?_
  · exact fun _ _ _ _ h => h.elim
  intro wd hwd
  apply Order.wpH_some rfl rfl
  · intro w' hw'; go_simp; exact rfl
  intro K hK; go_simp; refine hK _ ?_; clear hK K
  apply Order.wpH_some rfl rfl
  · intro w' hw'; go_simp; exact rfl
  intro K hK; go_simp; refine hK _ ?_; clear hK K
  apply Order.wpH_some rfl rfl
  · intro w' hw'; have q := cell_blk hw' 3; simp at q; go_simp; exact rfl
  intro K hK; go_simp; refine hK _ ?_; clear hK K
  apply Order.wpH_some rfl rfl
  · intro w' hw'; go_simp; exact rfl
  intro K hK; go_simp; refine hK _ ?_; clear hK K
  apply Order.wpH_some rfl rfl
  · intro w' hw'; have q := cell_blk hw' 4; simp at q; go_simp; exact rfl
  intro K hK; go_simp; refine hK _ ?_; clear hK K
  apply Order.wpH_some rfl rfl
  · intro w' hw'; go_simp; exact rfl
  intro K hK; go_simp; refine hK _ ?_; clear hK K
  apply Order.wpH_some rfl rfl
  · intro w' hw'; have q := cell_blk hw' 5; simp at q; go_simp; exact rfl
  intro K hK; go_simp; refine hK _ ?_; clear hK K
  apply Order.wpH_some rfl rfl
  · intro w' hw'; go_simp; exact rfl
  intro K hK; go_simp; refine hK _ ?_; clear hK K
  apply Order.wpH_some rfl rfl
  · intro w' hw'; have q := cell_blk hw' 6; simp at q; go_simp; exact rfl
  intro K hK; go_simp; refine hK _ ?_; clear hK K
  refine Order.wpH_nil ?_
  apply Order.wpI_step rfl rfl
  intro K hK
  go_simp
  refine hK _ _ (fun _ => Ext.block ((Ext.new _ _).tr (Ext.rfl' _)) (Ext.block hwd kh4)) ?_
  clear hK K
  have hxA : Ext w4 (wd.alloc (.cells #[.int .u8 ttl, .int .u8 proto] 5)) := Ext.tr hwd (Ext.new _ _)
  have hrA : Rd .u8 (wd.alloc (.cells #[.int .u8 ttl, .int .u8 proto] 5)) (.slice (some ⟨wd.heap.size, 0, none⟩) 2 2) [ttl, proto] := rd_new .u8 _ _ _ _ rfl rfl rfl rfl (by simp [maxLen])
  generalize (wd.alloc (.cells #[.int .u8 ttl, .int .u8 proto] 5)) = wA at *
  generalize wd.heap.size = WD at *
  have ho4 := HU4.out.kept hxA
  apply Order.wpI_step rfl rfl
  intro K hK
  refine pupon_app isU8 (.tmp 44) (.tmp 49) (by rfl) w3.heap.size _ L (by rfl) ho4 _ [ttl, proto] (by rfl) hrA (by rw [HL8.out]; simp) (by rw [HL8.out]; simp [maxLen]) (Nat.le_trans hx34.size hxA.size) (fun v6 w6 q1 q2 q3 => ?_)
  have kh6 := (q2.block _ (lt_of_block (hxA.block kh4)) (fun he => by have := (ho4.block _ he.symm).1; omega)).trans (hxA.block kh4)
  have hx6 : Ext w w6 := (ho4.low (Nat.le_of_lt hwB)).below q2 (hx04.tr hxA) (Nat.le_trans hx04.size hxA.size)
  refine hK _ _ (fun _ => kh6) ?_
  clear hK K q2 q3 ho4 hrA hxA hwd kh4
  obtain ⟨a6, n6, c6, rfl⟩ := q1.rd.shape
  apply Order.wpI_step rfl rfl
  intro K hK
  go_simp
  refine (wu16_any _ (L ++ [ttl, proto]) 0 w6 q1.rd (by rw [List.length_append, HL8.out]; simp) (by decide)).mono ?_
  rintro e w7 ⟨u7, rfl, hu7, hx7⟩
  obtain ⟨a7, n7, c7, rfl⟩ := hu7.rd.shape
  have kh7 := hx7.block kh6
  refine ⟨_, rfl, hK _ _ (fun _ => kh7) ?_⟩
  clear hK K
  apply Order.wpI_step rfl rfl
  intro K hK
  go_simp
  refine (wu32_any _ (L ++ [ttl, proto] ++ by2 0) src w7 hu7.rd (by rw [List.length_append, List.length_append, HL8.out]; simp [by2]) gsrc).mono ?_
  rintro e w8 ⟨u8, rfl, hu8, hx8⟩
  obtain ⟨a8, n8, c8, rfl⟩ := hu8.rd.shape
  have kh8 := hx8.block kh7
  refine ⟨_, rfl, hK _ _ (fun _ => kh8) ?_⟩
  clear hK K
  apply Order.wpI_step rfl rfl
  intro K hK
  go_simp
  refine (wu32_any _ (L ++ [ttl, proto] ++ by2 0 ++ by4 src) dst w8 hu8.rd (by rw [List.length_append, List.length_append, List.length_append, HL8.out]; simp [by2, by4]) gdst).mono ?_
  rintro e w9 ⟨u9, rfl, hu9, hx9⟩
  obtain ⟨a9, n9, c9, rfl⟩ := hu9.rd.shape
  have kh9 := hx9.block kh8
  refine ⟨_, rfl, hK _ _ (fun _ => kh9) ?_⟩
  clear hK K
  apply Order.wpI_step rfl rfl
  intro K hK
  go_simp
  refine hK _ _ (fun _ => kh9) ?_
  clear hK K
  refine Order.wpI_nil ?_
  have hx09 : Ext w w9 := hx6.tr (hx7.tr (hx8.tr hx9))
  have hb9 : w.heap.size ≤ w8.heap.size := (hx6.tr (hx7.tr hx8)).size
  have hL20 : (L ++ [ttl, proto] ++ by2 0 ++ by4 src ++ by4 dst).length = 20 := by simp only [List.length_append, HL8.out]; rfl
  generalize hM : L ++ [ttl, proto] ++ by2 0 ++ by4 src ++ by4 dst = M at *
  have HM := Lib.hid hM
  have HM20 := Lib.hid hL20
  have hu9 := hu9.low hb9
  clear q1 hu7 hu8 hx6 hx7 hx8 hx9 kh6 kh7 kh8 hM hL20 hb9
  have e7 := cell_blk kh9 7
  simp at e7
  go_upto_region 13 with (at_builtin; refine wpList_app isU8 rfl (.tmp 58) (.tmp 60) rfl w.heap.size _ M rfl hu9 _ op rfl (HV.out.ext hx09) (by rw [HM20.out]; omega) (by rw [HM20.out]; unfold maxLen; omega) hx09.size ?_; intro v10 w10 hown10 hg10 hat10; obtain ⟨g, cap, rfl, hg1, hg2, -, -, hc1, hc2, -⟩ := hown10.open (by rw [List.length_append, HM20.out]; omega))
  have hx010 : Ext w w10 := hu9.below hg10 hx09 hx09.size
  have hMO : M ++ op = LAY 0 := by
    rw [HLAY.out 0, ← HM.out, ← HLX.out, ← HFL.out, HMM.out]
    simp
  have hMF : ∀ F, (M ++ op).take 10 ++ by2 F ++ (M ++ op).drop 12 = LAY F := fun F => by
    rw [HLAY.out F, ← HM.out, ← HLX.out, ← HFL.out, HMM.out]
    simp [by2, by4]
  have HMF := Lib.hid hMF
  have hMl : (M ++ op).length = 20 + op.length := by rw [List.length_append, HM20.out]
  rw [hMl] at hc1 hown10
  simp only [HM20.out]
  rw [hMO] at hown10 HMF
  have hLB := HB0.out
  have hLN := HLEN.out 0
  have hLN2 := HLEN.out FLD
  have hFC : 65535 - csum (LAY 0) = FLD := by rw [HFD.out]
  generalize hNN : 20 + op.length = N at *
  generalize LAY 0 = LY at *
  have HLB := Lib.hid hLB
  have HLN := Lib.hid hLN
  have HLN2 := Lib.hid hLN2
  clear hLN2
  have HFC := Lib.hid hFC
  have hN20 : 20 ≤ N ∧ N ≤ 60 := by omega
  unfold maxLen at hc2
  clear hMF hMO hMl hLB hLN hFC hu9 hg10 hat10 e7 kh9 hx09 HM HLX HFL HMM HLAY HFD HLEN HB0 HM20
  have ho10 := hown10.rd
  have hN10 : (10 : Int) ≤ (N : Int) := by omega
  have hc10 : ¬ (cap = 10) := by omega
  have hcb := csum_bd HLB.out
  generalize hcs : csum LY = C at *
  have HCS := Lib.hid hcs
  clear hcs
  refine wp_region_tail 6 [(3, fun v w => Rds .u8 w v [LY]), (4, is (.int .u16 (65535 - C))), (5, fun v w => Rd .u8 w v (by2 (65535 - C)))] ?_ (by kernel_rfl) (by kernel_rfl) (by kernel_rfl) ?_
  · exact lasts_cons (fun _ _ _ hx h => Rds.ext h hx) (lasts_is (lasts_cons (fun _ _ _ hx h => Rd.ext h hx) lasts_nil))
  simp only [List.take, List.drop]
  iterate 3
    apply wpL_none rfl rfl
    · intro w' hw' hn'; go_simp; exact rfl
    intro K hK; go_simp; refine hK _ _ ?_; clear hK K
  apply wpL_some rfl rfl
  · intro w' hw' hn'
    go_simp
    exact ⟨Ext.new _ _, rds_one (ho10.ext hw') rfl⟩
  intro b2 w' hw' hD' hv
  clear hv hw' hD' w'
  intro K hK; go_simp; refine hK _ _ ?_; clear hK K
  apply wpL_some rfl rfl
  · intro w' hw' hn'
    have hr : Rds .u8 w' b2 [LY] := hn' ⟨3, .data⟩ (by simp) rfl
    go_simp
    refine ⟨Ext.rfl' _, ?_⟩
    refine (field_any _ _ _ hr ?_ ?_).mono ?_
    · intro x hx
      simp only [List.mem_cons, List.not_mem_nil, or_false] at hx
      subst hx
      exact HLB.out
    · have := HLN.out
      simp only [List.flatten_cons, List.flatten_nil, List.append_nil]
      omega
    rw [show [LY].flatten = LY from by simp, HCS.out]
    rintro e w2 ⟨rfl, hx⟩
    exact ⟨_, rfl, hx, by simp [Loose.is]⟩
  intro v w' hw' hD' hv
  obtain rfl : v = _ := hv
  clear hw' hD' w'
  intro K hK; go_simp; refine hK _ _ ?_; clear hK K
  apply wpL_some rfl rfl
  · intro w' hw' hn'
    go_simp
    refine ⟨Ext.rfl' _, ?_⟩
    refine (wu16_any _ [] (65535 - C) _ (Rd.nil _ _) (by simp) (by omega)).mono ?_
    rintro e w2 ⟨u, rfl, ho, hx⟩
    exact ⟨u, rfl, hx, ho.rd⟩
  intro v10 w' hw' hD' hv
  clear hv hw' hD' w'
  intro K hK; go_simp; refine hK _ _ ?_; clear hK K
  refine wpL_nil ?_
  intro w' hw' hD'
  have hr : Rd .u8 w' v10 (by2 (65535 - C)) := by have := hD' 5; simpa [Loose.upd] using this
  apply wpVL_step rfl
  intro K hK
  refine vupon_copyI isU8 (.tmp 63) (.tmp 67) (by rfl) w.heap.size g N cap LY (hown10.kept hw') 10 (N - 10) (cap - 10) (by rfl) v10 _ (by rfl) hr (by simp [by2]) (by simp [by2]; omega) (by have := HLN.out; omega) (fun v11 w8 q1 q2 => ?_)
  have hx8 : Ext w w8 := (q2.mono (S' := fun j => j = g) (fun _ _ h => h)).ext (Ext.tr hx010 hw') (fun j hj => by omega)
  refine hK _ _ ?_
  clear hK K hD' hw' hr q2
  refine wpVL_nil ?_
  rw [show (by2 (65535 - C)).length = 2 from rfl, HMF.out, show 65535 - C = FLD from HFC.out] at q1
  have hq1 := q1.rd
  go_wp2_with fail
  refine (concat_any _ [LAY FLD, p] _ (rds_two hq1 (HVP.out.ext hx8) rfl) ?_).mono ?_
  · have h1 : (LAY FLD).length = N := HLN2.out
    simp only [List.flatten_cons, List.flatten_nil, List.append_nil, List.length_append]
    omega
  rintro e w11 ⟨u11, rfl, hu11, hx11⟩
  rw [flat_two] at hu11
  obtain ⟨a11, n11, c11, rfl⟩ := hu11.rd.shape
  go_wp2_with fail
  go_ret2
  rw [HRR.out]
  exact ⟨_, rfl, hu11.low (Nat.le_trans hx8.size (by simp)), hx8.tr ((Ext.new _ _).tr hx11)⟩
end Go.Proofs.YtbaidlkjbdeceaaGreat

/-
  Proved here: the document's answers of layers 4 and 8: May of a head, Put of a message. Also: stores into an own row.
-/
import Derived.Test.YtbaidlkjbdeceaaGreatIcmp
import Derived.Test.YtbaidlkjbdeceaaGreatRow
import Derived.Test.YtbaidlkjbdeceaaGreatTwo
import Derived.Test.YtbaidlkjbdeceaaGreatUdp
namespace Go.Proofs.YtbaidlkjbdeceaaGreat
set_option maxRecDepth 200000
open Go.ChangeShapes Go.WideShapes Go.ChangeAt Go.RowKit Go.Cul Go.Loose
set_option linter.unusedVariables false
attribute [local go_sem] Loose.Still Loose.Upon Loose.vUpon First.pUpon

theorem put_own_facts {w : World} {base g n cap : Nat} {e : TypeId} {k : IntKind} {l : List Int} (hu : Own w base e k (.slice (some ⟨g, 0, none⟩) n cap) l) (i : Nat) (hi : i < l.length) (x : Int) :
    ∃ cur, w.heap[g]? = some (.cells cur e) ∧ i < cur.size ∧ base ≤ g ∧ ∀ W : World, W.heap[g]? = some (.cells (cur.setIfInBounds i (.int k x)) e) → Own W base e k (.slice (some ⟨g, 0, none⟩) n cap) (l.set i x) := by
  rcases hu.2 with ⟨h', _⟩ | ⟨g', cap', cur, h', hb, hg, hnc, hcm, hcs, htake⟩
  · cases h'
  · cases h'
    refine ⟨cur, hg, by omega, hb, fun W hW => ?_⟩
    unfold Own
    rw [List.length_set, List.map_set]
    refine ⟨by simp, .inr ⟨g, cap, _, rfl, hb, hW, hnc, hcm, by simpa using hcs, ?_⟩⟩
    rw [Array.toList_setIfInBounds, List.take_set, htake]
/-- A store into an own row. -/
theorem wpList_put_own {P : Program} (ty : TypeId) {dst : Option Tmp} {x y : Operand} {tt : TypeId} {pos : String} {after : Array Edge} {ops : Array Oper} {rest : List Oper} {a : Act} {w : World} {Q : Exit → Act → World → Prop} {base g n cap : Nat} {e : TypeId} {k : IntKind} {l : List Int}
    (hu : Own w base e k (.slice (some ⟨g, 0, none⟩) n cap) l) (i : Nat) (v : Int) (hx : a.eval x = .pointer (some ⟨g, i, none⟩)) (hy : a.eval y = .int k v) (hi : i < l.length) (hz : (P.info? ty).map (·.size) = some 1)
    (h : ∀ W : World, Own W base e k (.slice (some ⟨g, 0, none⟩) n cap) (l.set i v) → Mvs (fun j => j = g) w W → wpList P ops Q rest (a.put dst undef) W) : wpList P ops Q ({ dst := dst, op := .store ty x y, type := tt, pos := pos, after := after, guard := none } :: rest) a w := by
  obtain ⟨cur, hk, hs, -, hW⟩ := put_own_facts hu i hi v
  exact wpList_put_cell ty g i cur e (.int k v) hx hy hk hz hs rfl rfl fun W h1 h2 => h W (hW W h1) h2
theorem wpI_put_own {P : Program} {ops : Array Oper} {J : World → Prop} {z : Nat} {Q : Exit → Act → World → Prop} {E : List PanicEntry → World → Prop} (ty : TypeId) {dst : Option Tmp} {x y : Operand} {tt : TypeId} {pos : String} {after : Array Edge} {t : Nat} {ts : List Nat} {a : Act} {w : World} (ho : ops[t]? = some { dst := dst, op := .store ty x y, type := tt, pos := pos, after := after, guard := none }) {base g n cap : Nat} {e : TypeId} {k : IntKind} {l : List Int}
    (hu : Own w base e k (.slice (some ⟨g, 0, none⟩) n cap) l) (i : Nat) (v : Int) (hx : a.eval x = .pointer (some ⟨g, i, none⟩)) (hy : a.eval y = .int k v) (hi : i < l.length) (hz : (P.info? ty).map (·.size) = some 1)
    (h : ∀ W : World, Own W base e k (.slice (some ⟨g, 0, none⟩) n cap) (l.set i v) → Mvs (fun j => j = g) w W → ∀ K : Act → World → Prop, (∀ a w, (t ≠ z → J w) → Order.wpI P ops J z Q E ts a w → K a w) → K (a.put dst undef) W) : Order.wpI P ops J z Q E (t :: ts) a w := by
  obtain ⟨cur, hk, hs, -, hW⟩ := put_own_facts hu i hi v
  exact Order.wpI_set_cell ty ho g i cur e (.int k v) hx hy hk hz hs rfl rfl fun K hK => h _ (hW _ (set_blk hk i _)) (Mvs.set _ _ _ rfl) K hK
/-- A literal's row is one's own. -/
theorem own_lit {w : World} {e : TypeId} {k : IntKind} (l : List Int) (C : Array Value) (hC : C = (l.map (Value.int k)).toArray) (hl : l.length ≤ maxLen) {n : Nat} (hn : l.length = n) : Own (w.alloc (.cells C e)) w.heap.size e k (.slice (some ⟨w.heap.size, 0, none⟩) n n) l := by
  subst hC hn
  refine ⟨by simp, .inr ⟨w.heap.size, l.length, _, rfl, Nat.le_refl _, heap_alloc_new _ _, Nat.le_refl _, hl, by simp, by simp [List.take_of_length_le]⟩⟩
/-- A row is where its block is, and its cells. -/
theorem own_at {w : World} {base g n cap : Nat} {e : TypeId} {k : IntKind} {l : List Int} (hu : Own w base e k (.slice (some ⟨g, 0, none⟩) n cap) l) : base ≤ g ∧ g < w.heap.size := by
  rcases hu.2 with ⟨h', _⟩ | ⟨g', cap', cur, h', hb, hg, hnc, hcm, hcs, htake⟩
  · cases h'
  · cases h'
    exact ⟨hb, lt_of_block hg⟩

theorem r4may_any (h : Hd) (vo : Value) (w : World) (hvo : Rd .u8 w vo h.op) (hh : h.ok) (hl : h.op.length ≤ 140737488351232) :
    Calls Tryz.prog 23 #[.agg (h.cells vo)] w fun e w' => e = .returned (.bool h.may) ∧ Ext w w' := by
  obtain ⟨a, c, rfl, -, -, -⟩ := id hvo
  have hM : Hid (h.may = (decide (0 < h.ttl) && (decide (h.op.length ≤ 40) && decide (h.op.length % 4 = 0)))) := rfl
  have ht := hh.ttl
  obtain ⟨tos, id, df, ttl, proto, src, dst, op⟩ := h
  dsimp only [Hd.cells] at *
  clear hvo hh
  by_cases h1 : 0 < ttl
  · have h1' : (ttl != 0) = true := by simp; omega
    have H1 := Lib.hid h1
    clear h1 ht
    by_cases h2 : op.length ≤ 40
    · have h2' : (op.length : Int) ≤ 40 := by omega
      rcases h3 : ((op.length : Int) % 4 == 0) with _ | _
      · have hD : Hid (Hd.may ⟨tos, id, df, ttl, proto, src, dst, op⟩ = false) := by
          unfold Hid; rw [hM.out]; simp at h3 ⊢; omega
        clear h2
        go_enter Tryz.func23, Tryz.ntmps23
        go_wp2
        go_ret
        exact ⟨by rw [hD.out]; rfl, Ext.new _ _⟩
      · have hD : Hid (Hd.may ⟨tos, id, df, ttl, proto, src, dst, op⟩ = true) := by
          have h1 := H1.out
          unfold Hid; rw [hM.out]; simp at h3 ⊢; omega
        clear h2
        go_enter Tryz.func23, Tryz.ntmps23
        go_wp2
        go_ret
        exact ⟨by rw [hD.out]; rfl, Ext.new _ _⟩
    · have hD : Hid (Hd.may ⟨tos, id, df, ttl, proto, src, dst, op⟩ = false) := by
        unfold Hid; rw [hM.out]; simp; omega
      have h2' : ¬ (op.length : Int) ≤ 40 := by omega
      clear h2
      go_enter Tryz.func23, Tryz.ntmps23
      go_wp2
      go_ret
      exact ⟨by rw [hD.out]; rfl, Ext.new _ _⟩
  · have hD : Hid (Hd.may ⟨tos, id, df, ttl, proto, src, dst, op⟩ = false) := by
      unfold Hid; rw [hM.out]; simp; omega
    obtain rfl : ttl = 0 := by omega
    go_enter Tryz.func23, Tryz.ntmps23
    go_wp2
    go_ret
    exact ⟨by rw [hD.out]; rfl, Ext.new _ _⟩

set_option maxHeartbeats 4000000
set_option maxRecDepth 100000
theorem r8put_any (m : Ms) (vd : Value) (w : World) (hm : m.ok) (hvd : Rd .u8 w vd m.data) (hl : m.data.length ≤ 140737488351232) :
    Calls Tryz.prog 18 #[.agg (m.cells vd)] w fun e w' => ∃ u, e = .returned (.tuple #[u, .int .i64 (mput m).2]) ∧ Own w' w.heap.size 5 .u8 u (mput m).1 ∧ Ext w w' := by
  obtain ⟨ad, cd', rfl, hd1, hd2, -⟩ := id hvd
  unfold maxLen at hd2
  by_cases hlong : 1472 < m.data.length
  · have hU : Hid (mput m = ([], 3)) := by unfold mput; rw [if_pos hlong]; exact Lib.hid rfl
    have hlI : (1472 : Int) < (m.data.length : Int) := by omega
    obtain ⟨ty, cd, rest, data⟩ := m
    dsimp only [Ms.cells] at *
    go_enter Tryz.func18, Tryz.ntmps18
    go_wp2_with fail
    go_ret2
    rw [hU.out]
    exact ⟨_, rfl, Own.nil _ _ _ _, Ext.new _ _⟩
  have hU : Hid (mput m = (m.lay m.field, 0)) := by unfold mput; rw [if_neg hlong]; exact Lib.hid rfl
  have hlI : ¬ (1472 : Int) < (m.data.length : Int) := by omega
  have HLB := Lib.hid (Ms.lay_byt hm (f := 0) (by omega))
  have HLN := Lib.hid (m.lay_len 0)
  have HF : Hid (m.field = 65535 - csum (m.lay 0)) := rfl
  have hcb := csum_bd HLB.out
  have HLAY : Hid (∀ f, m.lay f = [m.ty, m.cd] ++ by2 f ++ by4 m.rest ++ m.data) := fun f => rfl
  generalize m.field = FLD at *
  generalize m.lay = LAY at *
  generalize mput m = MP at *
  obtain ⟨ty, cd, rest, data⟩ := m
  obtain ⟨gty, gcd, grest, gdata⟩ := hm
  dsimp only [Ms.cells] at *
  have HV := Lib.hid hvd
  have q1 : IntKind.u8.wrap (rest / 16777216) = rest / 16777216 := by rw [IntKind.wrap_u8]; omega
  have q2 : IntKind.u8.wrap (rest / 65536) = rest / 65536 % 256 := by rw [IntKind.wrap_u8]
  have q3 : IntKind.u8.wrap (rest / 256) = rest / 256 % 256 := by rw [IntKind.wrap_u8]
  have q4 : IntKind.u8.wrap rest = rest % 256 := by rw [IntKind.wrap_u8]
  have GR := Lib.hid grest
  clear hvd gdata hlong gty gcd grest
  have hx0 := Ext.new w (.cells #[.int .u8 ty, .int .u8 cd, .int .u32 rest, .slice ad data.length cd'] 33)
  have kh := heap_alloc_new w (.cells #[.int .u8 ty, .int .u8 cd, .int .u32 rest, .slice ad data.length cd'] 33)
  go_enter Tryz.func18, Tryz.ntmps18
  go_upto_region 1 with (fail)
  generalize hW : World.alloc w _ = W at *
  clear hW
  have e0 := cell_blk kh 0
  have e1 := cell_blk kh 1
  have e2 := cell_blk kh 2
  have e3 := cell_blk kh 3
  simp at e0 e1 e2 e3
  go_upto_region 4 with (fail)
  have ho := own_lit (w := W) (e := 5) (k := .u8) ([ty, cd, 0, 0] ++ by4 rest) (#[.int .u8 ty, .int .u8 cd, .int .u8 0, .int .u8 0, .int .u8 (rest / 16777216), .int .u8 (rest / 65536 % 256), .int .u8 (rest / 256 % 256), .int .u8 (rest % 256)]) rfl (by simp [by4, maxLen]) (n := 8) rfl
  have hxk := Ext.new W (.cells #[.int .u8 ty, .int .u8 cd, .int .u8 0, .int .u8 0, .int .u8 (rest / 16777216), .int .u8 (rest / 65536 % 256), .int .u8 (rest / 256 % 256), .int .u8 (rest % 256)] 5)
  generalize hW2 : World.alloc W _ = W2 at *
  clear hW2
  have hx02 := hx0.tr hxk
  have ho := ho.low (base' := w.heap.size) hx0.size
  have kh2 := hxk.block kh
  have hL8 : ([ty, cd, 0, 0] ++ by4 rest).length = 8 := rfl
  generalize hLx : [ty, cd, 0, 0] ++ by4 rest = L at *
  have HLX := Lib.hid hLx
  have HL8 := Lib.hid hL8
  generalize W.heap.size = b2 at *
  clear e0 e1 e2 e3 kh hLx hL8 hxk q1 q2 q3 q4 W hx0
  have e3 := cell_blk kh2 3
  simp at e3
  go_upto_region 5 with (at_builtin; refine wpList_app isU8 rfl (.tmp 30) (.tmp 32) rfl w.heap.size _ L rfl ho _ data rfl (HV.out.ext hx02) (by rw [HL8.out]; omega) (by rw [HL8.out]; unfold maxLen; omega) hx02.size ?_; intro v10 w10 hown10 hg10 hat10; obtain ⟨g, cap, rfl, hg1, hg2, -, -, hc1, hc2, -⟩ := hown10.open (by rw [List.length_append, HL8.out]; omega))
  have hx010 : Ext w w10 := ho.below hg10 hx02 hx02.size
  have hMO : L ++ data = LAY 0 := by
    rw [HLAY.out 0, ← HLX.out]
    simp [by2]
  have hLL : L.length + data.length = (LAY 0).length := by rw [← hMO, List.length_append]
  rw [hMO] at hown10 hc1
  rw [hLL]
  clear hLL
  have hFC : 65535 - csum (LAY 0) = FLD := by rw [HF.out]
  have hfb : 0 ≤ FLD ∧ FLD ≤ 65535 := by omega
  have hSET : ((LAY 0).set 2 (FLD / 256)).set 3 (FLD % 256) = LAY FLD := by
    rw [HLAY.out 0, HLAY.out FLD]
    simp [by2]
  have HSET := Lib.hid hSET
  have hlen : 8 ≤ (LAY 0).length := by rw [HLN.out]; omega
  obtain ⟨F1, hF1⟩ : ∃ x, FLD / 256 = x := ⟨_, rfl⟩
  obtain ⟨F2, hF2⟩ : ∃ x, FLD % 256 = x := ⟨_, rfl⟩
  rw [hF1, hF2] at HSET
  have f1 : FLD.tdiv 256 = F1 := by rw [Int.tdiv_eq_ediv_of_nonneg hfb.1]; exact hF1
  have f2 : IntKind.u16.wrap F1 = F1 := by rw [IntKind.wrap_u16]; omega
  have f3 : F1 % 256 = F1 := by omega
  have f4 : IntKind.u8.wrap F1 = F1 := by rw [IntKind.wrap_u8]; omega
  have f5 : FLD.tmod 256 = F2 := by rw [Int.tmod_eq_emod_of_nonneg hfb.1]; exact hF2
  have f6 : IntKind.u16.wrap F2 = F2 := by rw [IntKind.wrap_u16]; omega
  have f7 : F2 % 256 = F2 := by omega
  have f8 : IntKind.u8.wrap F2 = F2 := by rw [IntKind.wrap_u8]; omega
  clear hF1 hF2
  have HLEN := Lib.hid (And.intro hlen (show (LAY 0).length ≤ 281474976710656 by rw [HLN.out]; omega))
  generalize LAY 0 = LY at *
  clear hMO hSET hg10 hat10 ho e3 kh2 HLX HLAY hc1 hc2 HLN hcb hx02
  go_wp2_with fail
  refine (rfield_any _ LY w10 hown10.rd HLB.out HLEN.out.2).mono ?_
  rintro e w11 ⟨rfl, rfl⟩
  rw [hFC]
  have hi2 : (2 : Int) < (LY.length : Int) := by omega
  have hi3 : (3 : Int) < (LY.length : Int) := by omega
  clear hFC HF
  go_upto_region 7 with (refine wpList_put_own 5 hown10 2 F1 rfl rfl (by have := HLEN.out; omega) (by kernel_rfl) ?_; intro W6 own6 m6)
  have hx6 := m6.ext hx010 (fun j hj => by omega)
  try simp only [Act.put]
  go_upto_region 8 with (refine wpList_put_own 5 own6 3 F2 rfl rfl (by have := HLEN.out; rw [List.length_set]; omega) (by kernel_rfl) ?_; intro W7 own7 m7)
  have hx7 := m7.ext hx6 (fun j hj => by omega)
  try simp only [Act.put]
  rw [HSET.out] at own7
  go_wp2_with fail
  go_ret2
  rw [hU.out]
  exact ⟨_, rfl, own7, hx7⟩
end Go.Proofs.YtbaidlkjbdeceaaGreat

/-
  Proved here: the closed law TcpKnown returns true. No condition.
-/
import Derived.Test.YtjaffcbadgpolaaTcpBack
import Derived.BigRegion
namespace Go.Proofs.Ytjaffcbadgpolaa.tcpKnown
open Go.ChangeShapes Go.WideShapes Go.ChangeAt Go.RowKit Go.Cul Go.Loose
set_option linter.unusedVariables false
attribute [local go_sem] Loose.Still Loose.Upon Loose.vUpon

/-- Bytes with one of them another, the sum laid anew. -/
def spoilZ (c : List Int) (at_ : Nat) (x : Int) : List Int := ((c.set at_ x).set 16 0).set 17 0
def spoilN (c : List Int) (at_ : Nat) (x : Int) : Int := 65535 - csum (pseu 1 2 6 25 ++ spoilZ c at_ x)
def spoil (c : List Int) (at_ : Nat) (x : Int) : List Int := ((spoilZ c at_ x).set 16 (spoilN c at_ x / 256)).set 17 (spoilN c at_ x % 256)

theorem spoilt_any (c : List Int) (hc : c.length = 25) (hb : Byt c) (at_ : Nat) (hat : at_ < 25) (x : Int) (hx : 0 ≤ x ∧ x ≤ 255) (B : Nat) (u : Value) (w : World) (kb : w.heap[B]? = some (.cells #[u] 25)) (hu : Rd .u8 w u c) :
    Calls Try.prog 14 #[.int .i64 at_, .int .u8 x, .pointer (some ⟨B, 0, none⟩)] w fun e w' => e = .returned (.int .i64 (terr 1 2 (spoil c at_ x))) ∧ Ext w w' := by
  obtain ⟨au, cu, rfl, -, -, -⟩ := id hu
  have hZ : Hid (spoilZ c at_ x = ((c.set at_ x).set 16 0).set 17 0) := rfl
  have hN : Hid (spoilN c at_ x = 65535 - csum (pseu 1 2 6 25 ++ spoilZ c at_ x)) := rfl
  have hS : Hid (spoil c at_ x = ((spoilZ c at_ x).set 16 (spoilN c at_ x / 256)).set 17 (spoilN c at_ x % 256)) := rfl
  have hZb : Byt (spoilZ c at_ x) := byt_set (byt_set (byt_set hb _ hx) _ (by decide)) _ (by decide)
  have hZl : (spoilZ c at_ x).length = 25 := by unfold spoilZ; simp [hc]
  have hp : Byt (pseu 1 2 6 25) := pseu_byt 25 (by decide) (by decide) (p := 6) (by omega)
  have hNb : 0 ≤ spoilN c at_ x ∧ spoilN c at_ x ≤ 65535 := by
    have := csum_bd (hp.app hZb)
    unfold spoilN; omega
  have hSb : Byt (spoil c at_ x) := byt_set (byt_set hZb _ (by omega)) _ (by omega)
  have hSl : (spoil c at_ x).length = 25 := by unfold spoil; simp [hZl]
  generalize spoilZ c at_ x = Z at *
  generalize spoilN c at_ x = N at *
  generalize spoil c at_ x = S at *
  have e0 := cell_blk kb 0
  simp at e0
  rw [hc] at e0
  have hat' : (at_ : Int) < 25 := by omega
  go_enter Try.func14, Try.ntmps14
  rw [hc] at hu
  go_upto_region 2 with (at_builtin; go_must (refine wpList_app isU8 rfl (.const _) (.tmp 10) rfl w.heap.size _ [] rfl (Own.nil _ _ _ _) _ c rfl hu (by simp; omega) (by simp; unfold maxLen; omega) (Nat.le_refl _) ?_); intro v2 w2 ho2 hg2 hat2)
  have hx2 := nil_grow hg2 (Ext.rfl' w)
  rw [List.nil_append] at ho2
  obtain ⟨g, gc, rfl, hg, hgl, hc0, hf0, hgc, hgm, hs0⟩ := ho2.open (by omega)
  rw [hc] at ho2 hc0 hs0 hgc hat2
  have h1 := hs0 x at_ hat
  obtain ⟨g', gc', he, -, -, hc1, hf1, -, -, hs1⟩ := h1.open (by simp [hc])
  simp only [List.length_set, hc] at he hc1 hs1
  cases he
  have h2 := hs1 0 16 (by decide)
  obtain ⟨g', gc', he, -, -, hc2, hf2, -, -, hs2⟩ := h2.open (by simp [hc])
  simp only [List.length_set, hc] at he hc2 hs2
  cases he
  have h3 := hs2 0 17 (by decide)
  have y0 := hc0 at_ hat
  have z0 := hf0 at_
  have y1 := hc1 16 (by decide)
  have z1 := hf1 16
  have y2 := hc2 17 (by decide)
  have z2 := hf2 17
  rw [← hZ.out] at h3
  have hgc' : (25 : Int) ≤ (gc : Int) := by omega
  have hat0 : ¬ (at_ : Int) < 0 := by omega
  have hx3 : Ext w (((w2.setCell ⟨g, at_, none⟩ (.int .u8 x)).setCell ⟨g, 16, none⟩ (.int .u8 0)).setCell ⟨g, 17, none⟩ (.int .u8 0)) := Below.setCell (Below.setCell (Below.setCell hx2 hg _) hg _) hg _
  clear hc0 hf0 hs0 hc1 hf1 hs1 hc2 hf2 hs2 h1 h2 hg2 hat2 ho2 e0
  go_upto_region 3 with (fail)
  clear y0 z0 y1 z1 y2 z2
  generalize ((w2.setCell ⟨g, at_, none⟩ (.int .u8 x)).setCell ⟨g, 16, none⟩ (.int .u8 0)).setCell ⟨g, 17, none⟩ (.int .u8 0) = w3 at *
  go_wp2_with fail
  refine (pseudo_any 1 2 6 25 _ (by decide) (by decide) (by decide)).mono ?_
  rintro e w4 ⟨u, rfl, ho, hx4⟩
  have hor := ho.rd
  obtain ⟨u1, u2, u3, rfl⟩ := hor.shape
  have hZr := h3.rd
  go_wp2_with fail
  refine (field_any _ _ _ (rds_two hor (hZr.ext hx4) (t := 25) rfl) ?_ ?_).mono ?_
  · intro y hy
    simp only [List.mem_cons, List.not_mem_nil, or_false] at hy
    rcases hy with rfl | rfl
    · exact hp
    · exact hZb
  · simp only [List.flatten_cons, List.flatten_nil, List.append_nil, List.length_append]
    rw [pseu_len]; omega
  rw [show [pseu 1 2 6 25, Z].flatten = pseu 1 2 6 25 ++ Z from by simp, ← hN.out]
  rintro e w5 ⟨rfl, hx5⟩
  have hx5 := (hx4.al _).tr hx5
  have h5 := h3.kept hx5
  have hx5w := hx3.tr hx5
  clear hx4 hor ho hZr hx3 hx5 h3
  obtain ⟨g', gc', he, -, -, hc0, hf0, -, -, hs0⟩ := h5.open (by omega)
  rw [hZl] at he hc0 hs0
  cases he
  have h6 := hs0 (N / 256) 16 (by decide)
  obtain ⟨g', gc', he, -, -, hc1, hf1, -, -, hs1⟩ := h6.open (by simp [hZl])
  simp only [List.length_set, hZl] at he hc1 hs1
  cases he
  have h7 := hs1 (N % 256) 17 (by decide)
  rw [← hS.out] at h7
  have y0 := hc0 16 (by decide)
  have z0 := hf0 16
  have y1 := hc1 17 (by decide)
  have z1 := hf1 17
  have q1 : IntKind.u8.wrap (N / 256) = N / 256 := by rw [IntKind.wrap_u8]; omega
  have q2 : IntKind.u8.wrap N = N % 256 := by rw [IntKind.wrap_u8]
  have hx7 : Ext w ((w5.setCell ⟨g, 16, none⟩ (.int .u8 (N / 256))).setCell ⟨g, 17, none⟩ (.int .u8 (N % 256))) := Below.setCell (Below.setCell hx5w hg _) hg _
  clear hc0 hf0 hs0 hc1 hf1 hs1 h6 h5
  go_upto_region 5 with (fail)
  clear y0 z0 y1 z1
  generalize (w5.setCell ⟨g, 16, none⟩ (.int .u8 (N / 256))).setCell ⟨g, 17, none⟩ (.int .u8 (N % 256)) = w7 at *
  have hSr := h7.rd
  go_wp2_with fail
  refine (tparse_any 1 2 _ S _ hSr hSb (by decide) (by decide) (by omega)).mono ?_
  rw [tpar_err]
  rintro e w8 ⟨vo, vd, rfl, hfo, hfr, hx8⟩
  obtain ⟨ao, co, rfl⟩ := hfo.rdo.shape
  obtain ⟨ad, nd, cd, rfl⟩ := hfr.rd.shape
  dsimp only [Sg.cells]
  go_wp2_with fail
  go_ret
  exact ⟨rfl, hx7.tr (hx8.al _)⟩
theorem run_app_opts_list {w : World} {ops : Array Oper} {rest : List Oper} {o : Oper} {a : Act} {Q : Exit → Act → World → Prop} (hgd : o.guard = none) (s x : Operand)
    (ho : o.op = .call { callee := .builtin .append, args := #[s, x], argTypes := #[24, 24] }) (base : Nat) (v : Value) (os : List Op1) (hs : a.eval s = v) (h : FrO w base v os) (bs : Nat) (hx : a.eval x = .slice (some ⟨bs, 0, none⟩) 1 1)
    (k : Int) (u : Value) (l : List Int) (hu : Fr w base 5 .u8 u l) (hbs : w.heap[bs]? = some (.cells #[.int .u8 k, u] 36)) (hn : os.length ≤ 100000) (hbase : base ≤ w.heap.size)
    (hc : ∀ v' w', FrO w' base v' (os ++ [(k, l)]) → w.grownBy w' v.ownBlock → (∀ j, v.ownBlock = some j → base ≤ j) → wpList Try.prog ops Q rest (a.put o.dst v') w') : wpList Try.prog ops Q (o :: rest) a w := by
  obtain ⟨v', w', hrun, h2, h3, -, h5⟩ := run_appO w base o.type v os h bs k u l hu hbs hn hbase
  refine wpList_plain hgd fun _ hK => ?_
  unfold Oper.wp execOp
  simp only [ho, resolve, invoke, builtin, Sem.run_bind, Sem.run_pure, Result.andThen_ok, List.map_toArray, List.map_cons, List.map_nil, hs, hx, hrun]
  exact hK _ _ (hc v' w' h2 h3 h5)

/-- A segment without numbers. -/
abbrev sg (os : List Op1) (d : List Int) : Sg := ⟨0, 0, 0, 0, 0, 0, 0, os, d⟩
theorem z16 : (0 : Int) ≤ 0 ∧ (0 : Int) ≤ 65535 := by decide
theorem z32 : (0 : Int) ≤ 0 ∧ (0 : Int) ≤ 4294967295 := by decide
theorem z8 : (0 : Int) ≤ 0 ∧ (0 : Int) ≤ 255 := by decide
theorem sg_ok {os : List Op1} {d : List Int} (ho : BytO os) (hd : Byt d) : (sg os d).ok := ⟨z16, z16, z32, z32, z8, z16, z16, ho, hd⟩
abbrev oFull : List Op1 := [(99, zeros 38)]
theorem oFull_byt : BytO oFull := fun o ho => by
  obtain rfl : o = (99, zeros 38) := by simpa using ho
  exact ⟨by decide, zeros_byt _⟩
theorem oFull_put : ∃ O, oput oFull = (O, 0) ∧ Byt O ∧ O.length = 40 := by
  obtain ⟨O, E, h, h1, h2⟩ := oput_split oFull
  have h3 : (oput oFull).2 = 0 := by decide +kernel
  have h4 : (oput oFull).1.length = 40 := by decide +kernel
  have h5 := oput_byt oFull_byt
  rw [h] at h3 h4 h5
  dsimp only at h3 h4 h5
  subst h3
  exact ⟨O, h, h5, h4⟩

abbrev OwnZ (base n : Nat) (v : Value) (w : World) : Prop := Own w base 5 .u8 v (zeros n)
def Opt99 (base : Nat) (v : Value) (w : World) : Prop := ∃ a n c, v = .agg #[.int .u8 99, .slice a n c] ∧ OwnZ base 38 (.slice a n c) w
def RowO (base : Nat) (v : Value) (w : World) : Prop := ∃ g a n c, v = .slice (some ⟨g, 0, none⟩) 1 1 ∧ w.heap[g]? = some (.cells #[.int .u8 99, .slice a n c] 36) ∧ OwnZ base 38 (.slice a n c) w
def NewSeg (base : Nat) (v : Value) (w : World) : Prop := ∃ b, v = .pointer (some ⟨b, 0, none⟩) ∧ base ≤ b ∧ w.heap[b]? = some (.cells (Sg.none.cells (.slice none 0 0) (.slice none 0 0)) 27)
theorem Opt99.ext {b : Nat} {v : Value} {w w' : World} (h : Opt99 b v w) (hx : Ext w w') : Opt99 b v w' := by obtain ⟨a, n, c, h1, h2⟩ := h; exact ⟨a, n, c, h1, Own.kept h2 hx⟩
theorem RowO.ext {b : Nat} {v : Value} {w w' : World} (h : RowO b v w) (hx : Ext w w') : RowO b v w' := by obtain ⟨g, a, n, c, h1, h2, h3⟩ := h; exact ⟨g, a, n, c, h1, hx.block h2, Own.kept h3 hx⟩
/-- Bytes of one's own do not lie in a segment's block. -/
theorem own_seg {w : World} {base : Nat} {v : Value} {l : List Int} (h : Own w base 5 .u8 v l) {b : Nat} {C : Array Value} (kb : w.heap[b]? = some (.cells C 27)) : v.ownBlock ≠ some b := by
  rcases h.2 with ⟨rfl, _⟩ | ⟨g, cap, cur, rfl, hb, hh, r⟩
  · simp [Value.ownBlock]
  · intro he
    simp [Value.ownBlock] at he
    subst he
    rw [hh] at kb
    cases kb
theorem new_blk2 (w : World) (o o2 : Obj) : ((w.alloc o).alloc o2).heap[w.heap.size]? = some o := (Ext.new _ o2).block (heap_alloc_new w o)
theorem own_grown {w w' : World} {r : Option Nat} {base : Nat} {v : Value} {l : List Int} (h : Own w base 5 .u8 v l) (hg : w.grownBy w' r) (hr : ∀ b, v.ownBlock = some b → r ≠ some b) : Own w' base 5 .u8 v l := by
  refine ⟨h.1, ?_⟩
  rcases h.2 with h0 | ⟨g, cap, cur, rfl, hb, hh, q⟩
  · exact .inl h0
  · exact .inr ⟨g, cap, cur, rfl, hb, (hg.block g (lt_of_block hh) (fun e => hr g (by simp [Value.ownBlock]) e.symm)).trans hh, q⟩
theorem fro_set {w : World} {base : Nat} {v : Value} {os : List Op1} (h : FrO w base v os) {b i : Nat} {u : Value} {C : Array Value} (kb : w.heap[b]? = some (.cells C 27)) : FrO (w.setCell ⟨b, i, none⟩ u) base v os := by
  obtain ⟨xs, h1, h2, h3⟩ := h
  refine ⟨xs, h1, ⟨h2.1, ?_⟩, fun x hx => ?_⟩
  · rcases h2.2 with h0 | ⟨g, cap, cur, rfl, hb, hh, r⟩
    · exact .inl h0
    · exact .inr ⟨g, cap, cur, rfl, hb, set_oth hh (by rintro rfl; rw [hh] at kb; cases kb) _ _, r⟩
  · rcases h3 x hx with h4 | h4
    · exact .inl (h4.other (a := ⟨b, i, none⟩) (own_seg h4 kb) u)
    · exact .inr h4
theorem own_mvs {S : Nat → Prop} {w w' : World} {base : Nat} {v : Value} {l : List Int} (h : Own w base 5 .u8 v l) (hm : Mvs S w w') (hS : ∀ b, S b → v.ownBlock ≠ some b) : Own w' base 5 .u8 v l := by
  refine ⟨h.1, ?_⟩
  rcases h.2 with h0 | ⟨g, cap, cur, rfl, hb, hh, r⟩
  · exact .inl h0
  · exact .inr ⟨g, cap, cur, rfl, hb, hm.keep hh (fun hs => hS g hs (by simp [Value.ownBlock])), r⟩
theorem NewSeg.ext {b : Nat} {v : Value} {w w' : World} (h : NewSeg b v w) (hx : Ext w w') : NewSeg b v w' := by obtain ⟨a, h1, h2, h3⟩ := h; exact ⟨a, h1, h2, hx.block h3⟩

set_option maxHeartbeats 4000000 in
set_option maxRecDepth 100000 in
theorem walk (w : World) : Calls Try.prog 4 #[] w fun e w' => e = .returned (.bool true) ∧ Ext w w' := by
  obtain ⟨O, hO, hOb, hOl⟩ := oFull_put
  go_enter Try.func4, Try.ntmps4
  go_upto_region 1 with (fail)
  refine wp_region_tail 6 [(0, OwnZ w.heap.size 38), (1, Opt99 w.heap.size), (2, RowO w.heap.size), (3, OwnZ w.heap.size 1420), (5, NewSeg w.heap.size)] ?_ (by kernel_rfl) (by kernel_rfl) (by kernel_rfl) ?_
  · exact lasts_cons (fun _ _ _ hx h => Own.kept h hx) (lasts_cons (fun _ _ _ hx h => Opt99.ext h hx) (lasts_cons (fun _ _ _ hx h => RowO.ext h hx) (lasts_cons (fun _ _ _ hx h => Own.kept h hx) (lasts_cons (fun _ _ _ hx h => NewSeg.ext h hx) lasts_nil))))
  simp only [List.take, List.drop]
  apply wpL_some rfl rfl
  · intro w' hw' hn'
    obtain ⟨w1, hr, ho, hx⟩ := run_mk isU8 w' w.heap.size .i64 .i64 38 (by omega) (by unfold maxLen; omega) hw'.size
    have hr : Sem.run Try.prog (Instr.makeSlice 25 (.int .i64 38) (.int .i64 38)) w' = .ok (.slice (some ⟨w'.heap.size, 0, none⟩) 38 38) w1 := hr
    go_simp
    exact ho
  intro v w' hw' hD' hv
  obtain ⟨a0, n0, c0, rfl⟩ := (Own.rd hv).shape
  clear hv hw' hD' w'
  intro K hK; go_simp; refine hK _ _ ?_; clear hK K
  apply wpL_some rfl rfl
  · intro w' hw' hn'
    have hr : OwnZ w.heap.size 38 (.slice a0 n0 c0) w' := hn' ⟨0, .data⟩ (by simp) rfl
    go_simp
    exact ⟨Ext.rfl' _, _, _, _, rfl, hr⟩
  intro v w' hw' hD' hv
  obtain ⟨a1, n1, c1, rfl, -⟩ := hv
  clear hw' hD' w'
  intro K hK; go_simp; refine hK _ _ ?_; clear hK K
  apply wpL_some rfl rfl
  · intro w' hw' hn'
    obtain ⟨a, n, c, he, hr⟩ : Opt99 w.heap.size (.agg #[.int .u8 99, .slice a1 n1 c1]) w' := hn' ⟨1, .data⟩ (by simp) rfl
    cases he
    go_simp
    exact ⟨Ext.new _ _, _, _, _, _, rfl, heap_alloc_new _ _, hr.kept (Ext.new _ _)⟩
  intro v w' hw' hD' hv
  obtain ⟨og, a2, n2, c2, rfl, -, -⟩ := hv
  clear hw' hD' w'
  intro K hK; go_simp; refine hK _ _ ?_; clear hK K
  apply wpL_some rfl rfl
  · intro w' hw' hn'
    obtain ⟨w1, hr, ho, hx⟩ := run_mk isU8 w' w.heap.size .i64 .i64 1420 (by omega) (by unfold maxLen; omega) hw'.size
    have hr : Sem.run Try.prog (Instr.makeSlice 25 (.int .i64 1420) (.int .i64 1420)) w' = .ok (.slice (some ⟨w'.heap.size, 0, none⟩) 1420 1420) w1 := hr
    go_simp
    exact ho
  intro v w' hw' hD' hv
  obtain ⟨da, dn, dc, rfl⟩ := (Own.rd hv).shape
  clear hv hw' hD' w'
  intro K hK; go_simp; refine hK _ _ ?_; clear hK K
  iterate 1
    apply wpL_none rfl rfl
    · intro w' hw' hn'; go_simp; exact rfl
    intro K hK; go_simp; refine hK _ _ ?_; clear hK K
  apply wpL_some rfl rfl
  · intro w' hw' hn'
    go_simp
    exact ⟨Ext.new _ _, _, rfl, hw'.size, heap_alloc_new _ _⟩
  intro v w' hw' hD' hv
  obtain ⟨b1, rfl, hb1, -⟩ := hv
  clear hw' hD' w'
  intro K hK; go_simp; refine hK _ _ ?_; clear hK K
  refine wpL_nil ?_
  intro w1 hx1 hD
  obtain ⟨og', a3, n3, c3, he, ko, ho3⟩ : RowO w.heap.size (.slice (some ⟨og, 0, none⟩) 1 1) w1 := by have := hD 2; simpa [Loose.upd] using this
  cases he
  have hod : OwnZ w.heap.size 1420 (.slice da dn dc) w1 := by have := hD 3; simpa [Loose.upd] using this
  obtain ⟨b', hb', -, kb⟩ : NewSeg w.heap.size (.pointer (some ⟨b1, 0, none⟩)) w1 := by have := hD 5; simpa [Loose.upd] using this
  cases hb'
  clear hD
  obtain ⟨da', dc', hde, -, -, -⟩ := id hod.rd
  rw [show (zeros 1420).length = 1420 from by simp [zeros]] at hde
  cases hde
  have hg1 : og ≠ b1 := by rintro rfl; rw [ko] at kb; cases kb
  have hs3 := own_seg ho3 kb
  have hsd := own_seg hod kb
  simp only [Sg.cells, Sg.none] at kb
  have e0 := cell_blk kb 0
  have e1 := cell_blk kb 1
  have e2 := cell_blk kb 2
  have e3 := cell_blk kb 3
  have e4 := cell_blk kb 4
  have e5 := cell_blk kb 5
  have e6 := cell_blk kb 6
  have e7 := cell_blk kb 7
  have e8 := cell_blk kb 8
  simp at e0 e1 e2 e3 e4 e5 e6 e7 e8
  have fz := fz_blk kb
  apply wpVL_step rfl
  intro K hK
  go_simp
  refine hK _ _ ?_
  clear hK K
  refine wpVL_nil ?_
  generalize hV : World.setCell _ _ _ = V
  obtain ⟨kb, hmv⟩ := seg_set (g := Sg.none) (h := Sg.none) kb hV
  have hxV : Ext w V := hmv.ext hx1 (fun k hk => by omega)
  have ko := hmv.keep ko hg1
  have ho3 := own_mvs ho3 hmv (fun b hb => by subst hb; exact hs3)
  have hod := own_mvs hod hmv (fun b hb => by subst hb; exact hsd)
  have hvo := rdo_one ko ho3.rd
  have hvd := hod.rd
  simp only [Sg.cells, Sg.none] at kb
  clear hV hmv e0 e1 e2 e3 e4 e5 e6 e7 e8 fz
  have e0 := cell_blk kb 0
  have e1 := cell_blk kb 1
  have e2 := cell_blk kb 2
  have e3 := cell_blk kb 3
  have e4 := cell_blk kb 4
  have e5 := cell_blk kb 5
  have e6 := cell_blk kb 6
  have e7 := cell_blk kb 7
  have e8 := cell_blk kb 8
  simp at e0 e1 e2 e3 e4 e5 e6 e7 e8
  have hbV := lt_of_block kb
  go_upto_region 2 with (fail)
  go_cut [2, 3, 4] from 24 (fun u v x wc => ∃ A B C : Nat, u = .pointer (some ⟨A, 0, none⟩) ∧ v = .pointer (some ⟨B, 0, none⟩) ∧ x = .pointer (some ⟨C, 0, none⟩) ∧ A ≠ B ∧ A ≠ C ∧ B ≠ C ∧ V.heap.size ≤ A ∧ V.heap.size ≤ B ∧ V.heap.size ≤ C ∧ wc.heap[A]? = some (.cells #[.int .u16 0, .int .u16 0, .int .u32 0, .int .u32 0, .int .u8 0, .int .u16 0, .int .u16 0, .slice (some ⟨og, 0, none⟩) 1 1, .slice da 1420 dc] 27) ∧ wc.heap[B]? = some (.cells #[.int .u16 0, .int .u16 0, .int .u32 0, .int .u32 0, .int .u8 0, .int .u16 0, .int .u16 0, .slice (some ⟨og, 0, none⟩) 1 1, .slice da 1420 dc] 27) ∧ wc.heap[C]? = some (.cells #[.int .u16 0, .int .u16 0, .int .u32 0, .int .u32 0, .int .u8 0, .int .u16 0, .int .u16 0, .slice (some ⟨og, 0, none⟩) 1 1, .slice da 1420 dc] 27) ∧ Ext V wc)
  case first =>
    have e0_a := fun (o : Obj) => (Ext.new V o).cell e0
    have e0_b := fun (o : Obj) => (Ext.new V o).dr.cell e0
    have e0_c := fun (o o2 : Obj) => ((Ext.new V o).al o2).cell e0
    have e0_d := fun (o o2 : Obj) => ((Ext.new V o).al o2).dr.cell e0
    have e0_e := (Ext.rfl' V).dr.cell e0
    have e0_f := fun (o o2 o3 : Obj) => (((Ext.new V o).al o2).al o3).cell e0
    have e0_g := fun (o o2 o3 : Obj) => (((Ext.new V o).al o2).al o3).dr.cell e0
    have e1_a := fun (o : Obj) => (Ext.new V o).cell e1
    have e1_b := fun (o : Obj) => (Ext.new V o).dr.cell e1
    have e1_c := fun (o o2 : Obj) => ((Ext.new V o).al o2).cell e1
    have e1_d := fun (o o2 : Obj) => ((Ext.new V o).al o2).dr.cell e1
    have e1_e := (Ext.rfl' V).dr.cell e1
    have e1_f := fun (o o2 o3 : Obj) => (((Ext.new V o).al o2).al o3).cell e1
    have e1_g := fun (o o2 o3 : Obj) => (((Ext.new V o).al o2).al o3).dr.cell e1
    have e2_a := fun (o : Obj) => (Ext.new V o).cell e2
    have e2_b := fun (o : Obj) => (Ext.new V o).dr.cell e2
    have e2_c := fun (o o2 : Obj) => ((Ext.new V o).al o2).cell e2
    have e2_d := fun (o o2 : Obj) => ((Ext.new V o).al o2).dr.cell e2
    have e2_e := (Ext.rfl' V).dr.cell e2
    have e2_f := fun (o o2 o3 : Obj) => (((Ext.new V o).al o2).al o3).cell e2
    have e2_g := fun (o o2 o3 : Obj) => (((Ext.new V o).al o2).al o3).dr.cell e2
    have e3_a := fun (o : Obj) => (Ext.new V o).cell e3
    have e3_b := fun (o : Obj) => (Ext.new V o).dr.cell e3
    have e3_c := fun (o o2 : Obj) => ((Ext.new V o).al o2).cell e3
    have e3_d := fun (o o2 : Obj) => ((Ext.new V o).al o2).dr.cell e3
    have e3_e := (Ext.rfl' V).dr.cell e3
    have e3_f := fun (o o2 o3 : Obj) => (((Ext.new V o).al o2).al o3).cell e3
    have e3_g := fun (o o2 o3 : Obj) => (((Ext.new V o).al o2).al o3).dr.cell e3
    have e4_a := fun (o : Obj) => (Ext.new V o).cell e4
    have e4_b := fun (o : Obj) => (Ext.new V o).dr.cell e4
    have e4_c := fun (o o2 : Obj) => ((Ext.new V o).al o2).cell e4
    have e4_d := fun (o o2 : Obj) => ((Ext.new V o).al o2).dr.cell e4
    have e4_e := (Ext.rfl' V).dr.cell e4
    have e4_f := fun (o o2 o3 : Obj) => (((Ext.new V o).al o2).al o3).cell e4
    have e4_g := fun (o o2 o3 : Obj) => (((Ext.new V o).al o2).al o3).dr.cell e4
    have e5_a := fun (o : Obj) => (Ext.new V o).cell e5
    have e5_b := fun (o : Obj) => (Ext.new V o).dr.cell e5
    have e5_c := fun (o o2 : Obj) => ((Ext.new V o).al o2).cell e5
    have e5_d := fun (o o2 : Obj) => ((Ext.new V o).al o2).dr.cell e5
    have e5_e := (Ext.rfl' V).dr.cell e5
    have e5_f := fun (o o2 o3 : Obj) => (((Ext.new V o).al o2).al o3).cell e5
    have e5_g := fun (o o2 o3 : Obj) => (((Ext.new V o).al o2).al o3).dr.cell e5
    have e6_a := fun (o : Obj) => (Ext.new V o).cell e6
    have e6_b := fun (o : Obj) => (Ext.new V o).dr.cell e6
    have e6_c := fun (o o2 : Obj) => ((Ext.new V o).al o2).cell e6
    have e6_d := fun (o o2 : Obj) => ((Ext.new V o).al o2).dr.cell e6
    have e6_e := (Ext.rfl' V).dr.cell e6
    have e6_f := fun (o o2 o3 : Obj) => (((Ext.new V o).al o2).al o3).cell e6
    have e6_g := fun (o o2 o3 : Obj) => (((Ext.new V o).al o2).al o3).dr.cell e6
    have e7_a := fun (o : Obj) => (Ext.new V o).cell e7
    have e7_b := fun (o : Obj) => (Ext.new V o).dr.cell e7
    have e7_c := fun (o o2 : Obj) => ((Ext.new V o).al o2).cell e7
    have e7_d := fun (o o2 : Obj) => ((Ext.new V o).al o2).dr.cell e7
    have e7_e := (Ext.rfl' V).dr.cell e7
    have e7_f := fun (o o2 o3 : Obj) => (((Ext.new V o).al o2).al o3).cell e7
    have e7_g := fun (o o2 o3 : Obj) => (((Ext.new V o).al o2).al o3).dr.cell e7
    have e8_a := fun (o : Obj) => (Ext.new V o).cell e8
    have e8_b := fun (o : Obj) => (Ext.new V o).dr.cell e8
    have e8_c := fun (o o2 : Obj) => ((Ext.new V o).al o2).cell e8
    have e8_d := fun (o o2 : Obj) => ((Ext.new V o).al o2).dr.cell e8
    have e8_e := (Ext.rfl' V).dr.cell e8
    have e8_f := fun (o o2 o3 : Obj) => (((Ext.new V o).al o2).al o3).cell e8
    have e8_g := fun (o o2 o3 : Obj) => (((Ext.new V o).al o2).al o3).dr.cell e8
    go_region
    all_goals
      generalize hW : World.drew _ = W
      go_wp2_with fail
      go_meet
      case rel =>
        refine ⟨_, _, _, rfl, rfl, rfl, by omega, by omega, by omega, by omega, by omega, by omega, ?_, ?_, ?_, ?_⟩
        · rw [← hW]; show (World.alloc (World.alloc (World.alloc V _) _) _).heap[_]? = _; simp only [heap_alloc_at, World.size_alloc]; repeat (first | rfl | rw [if_pos (by first | trivial | omega)] | rw [if_neg (by omega)])
        · rw [← hW]; show (World.alloc (World.alloc (World.alloc V _) _) _).heap[_]? = _; simp only [heap_alloc_at, World.size_alloc]; repeat (first | rfl | rw [if_pos (by first | trivial | omega)] | rw [if_neg (by omega)])
        · rw [← hW]; show (World.alloc (World.alloc (World.alloc V _) _) _).heap[_]? = _; simp only [heap_alloc_at, World.size_alloc]; repeat (first | rfl | rw [if_pos (by first | trivial | omega)] | rw [if_neg (by omega)])
        · rw [← hW]; exact (((Ext.new V _).al _).al _).dr
  obtain ⟨A, B, C, rfl, rfl, rfl, hAB, hAC, hBC, hA, hB, hC, kA, kB, kC, hx2⟩ := hcut
  obtain ⟨W2, rfl⟩ : ∃ W2 : World, W2 = wc := ⟨_, rfl⟩
  have hxW2 := hxV.tr hx2
  have kb := hx2.block kb
  have hbV2 : b1 < W2.heap.size := lt_of_block kb
  have hA2 := lt_of_block kA
  have hB2 := lt_of_block kB
  have hC2 := lt_of_block kC
  clear e0 e1 e2 e3 e4 e5 e6 e7 e8
  obtain ⟨w3, hr3, hoL, hx3⟩ := run_mk isU8 W2 W2.heap.size .i64 .i64 1421 (by omega) (by unfold maxLen; omega) (Nat.le_refl _)
  have hr3 : Sem.run Try.prog (Instr.makeSlice 25 (.int .i64 1421) (.int .i64 1421)) W2 = .ok (.slice (some ⟨W2.heap.size, 0, none⟩) 1421 1421) w3 := hr3
  have kA := hx3.block kA
  have a8 := cell_blk kA 8
  simp at a8
  have fA := fz_blk kA
  go_upto_region 4 with (fail)
  clear hr3 a8 fA
  have hm := (Mvs.ofExt (S := fun k => k = A ∨ k = B ∨ k = C) hx3).tr (Mvs.set w3 ⟨A, 8, none⟩ (.slice (some ⟨W2.heap.size, 0, none⟩) 1421 1421) (.inl rfl))
  have kA := set_blk kA 8 (.slice (some ⟨W2.heap.size, 0, none⟩) 1421 1421)
  have kB := set_oth (hx3.block kB) (Ne.symm hAB) 8 (.slice (some ⟨W2.heap.size, 0, none⟩) 1421 1421)
  have kC := set_oth (hx3.block kC) (Ne.symm hAC) 8 (.slice (some ⟨W2.heap.size, 0, none⟩) 1421 1421)
  have kb := set_oth (hx3.block kb) (show b1 ≠ A by omega) 8 (.slice (some ⟨W2.heap.size, 0, none⟩) 1421 1421)
  have hoL := hoL.other (a := ⟨A, 8, none⟩) (by simp [Value.ownBlock]; omega) (.slice (some ⟨W2.heap.size, 0, none⟩) 1421 1421)
  have hs4 := hm.size
  simp at kA
  generalize w3.setCell ⟨A, 8, none⟩ (.slice (some ⟨W2.heap.size, 0, none⟩) 1421 1421) = w4 at *
  have b7 := cell_blk kB 7
  simp at b7
  have b7a := fun (o : Obj) => (Ext.new w4 o).cell b7
  have fBa := fun (o : Obj) => fz_blk ((Ext.new w4 o).block kB)
  go_upto_region 5 with (fail)
  clear b7 b7a fBa
  generalize hgo : w4.heap.size = og2 at *
  have hm4 := (Mvs.ofExt (S := fun k => k = A ∨ k = B ∨ k = C) (Ext.new w4 (.cells #[.int .u8 1, .slice none 0 0] 36))).tr (Mvs.set _ ⟨B, 7, none⟩ (.slice (some ⟨og2, 0, none⟩) 1 1) (.inr (.inl rfl)))
  have hm := hm.tr hm4
  have kN := set_oth (new_blk w4 (.cells #[.int .u8 1, .slice none 0 0] 36) hgo) (show og2 ≠ B by omega) 7 (.slice (some ⟨og2, 0, none⟩) 1 1)
  have kB := set_blk ((Ext.new w4 (.cells #[.int .u8 1, .slice none 0 0] 36)).block kB) 7 (.slice (some ⟨og2, 0, none⟩) 1 1)
  have kA := set_oth ((Ext.new w4 (.cells #[.int .u8 1, .slice none 0 0] 36)).block kA) hAB 7 (.slice (some ⟨og2, 0, none⟩) 1 1)
  have kC := set_oth ((Ext.new w4 (.cells #[.int .u8 1, .slice none 0 0] 36)).block kC) (Ne.symm hBC) 7 (.slice (some ⟨og2, 0, none⟩) 1 1)
  have kb := set_oth ((Ext.new w4 (.cells #[.int .u8 1, .slice none 0 0] 36)).block kb) (show b1 ≠ B by omega) 7 (.slice (some ⟨og2, 0, none⟩) 1 1)
  have hoL := (hoL.kept (Ext.new w4 (.cells #[.int .u8 1, .slice none 0 0] 36))).other (a := ⟨B, 7, none⟩) (by simp [Value.ownBlock]; omega) (.slice (some ⟨og2, 0, none⟩) 1 1)
  simp at kB
  clear hm4
  generalize (w4.alloc (.cells #[.int .u8 1, .slice none 0 0] 36)).setCell ⟨B, 7, none⟩ (.slice (some ⟨og2, 0, none⟩) 1 1) = w5 at *
  have hs5 := hm.size
  have hx5 : Ext V w5 := hm.ext hx2 (fun k hk => by omega)
  have e7 := cell_blk kb 7
  simp at e7
  have e7a := fun (o : Obj) => (Ext.new w5 o).cell e7
  have hO4 : (w5.alloc (.cells #[.int .u8 4, .slice none 0 0] 36)).heap[w5.heap.size]? = some (.cells #[.int .u8 4, .slice none 0 0] 36) := heap_alloc_new w5 _
  have hfo : FrO (w5.alloc (.cells #[.int .u8 4, .slice none 0 0] 36)) W2.heap.size (.slice (some ⟨w5.heap.size, 0, none⟩) 1 1) [(4, [])] :=
    ⟨[((4, []), .slice none 0 0)], rfl, ⟨rfl, .inr ⟨_, _, _, rfl, hs5, hO4, Nat.le_refl _, by decide, rfl, rfl⟩⟩, fun x hx => by
      obtain rfl : x = _ := by simpa using hx
      exact .inl (Own.nil _ _ _ _)⟩
  have kC5 := (Ext.new w5 (.cells #[.int .u8 4, .slice none 0 0] 36)).block kC
  have ho3b : Fr (w5.alloc (.cells #[.int .u8 4, .slice none 0 0] 36)) w.heap.size 5 .u8 (.slice a3 n3 c3) (zeros 38) := .inl ((Own.kept ho3 (hx5.al _)))
  have hfo2 : FrO (w5.alloc (.cells #[.int .u8 4, .slice none 0 0] 36)) w.heap.size (.slice (some ⟨w5.heap.size, 0, none⟩) 1 1) [(4, [])] := hfo.low (by have := hxW2.size; omega)
  have hko := (hx5.al (.cells #[.int .u8 4, .slice none 0 0] 36)).block ko
  go_upto_region 6 with (at_builtin; go_must (refine run_app_opts_list rfl (.tmp 38) (.tmp 40) rfl w.heap.size _ [(4, [])] rfl hfo2 og rfl 99 (.slice a3 n3 c3) (zeros 38) ho3b hko (by decide) (by have := hxW2.size; simp; omega) ?_); intro v6 w6 ho6 hg6 hat6; obtain ⟨a6, c6, rfl⟩ := ho6.rdo.shape; have kC6 := (hg6.block C (by simp; omega) (by simp [Value.ownBlock, Act.eval]; omega)).trans kC5; have c7 := cell_blk kC6 7; simp at c7; have fC := fz_blk kC6)
  have hg6 : (w5.alloc (.cells #[.int .u8 4, .slice none 0 0] 36)).grownBy w6 (some w5.heap.size) := hg6
  have hbl : ∀ (k : Nat) (o : Obj), w5.heap[k]? = some o → w6.heap[k]? = some o := fun k o hk => by
    have hl := lt_of_block hk
    exact (hg6.block k (by simp; omega) (by simp; omega)).trans ((Ext.new w5 _).block hk)
  have kA := hbl _ _ kA
  have kB := hbl _ _ kB
  have kN := hbl _ _ kN
  have kb := hbl _ _ kb
  have hoL := own_grown (Own.kept hoL (Ext.new w5 _)) hg6 (by intro b hb; simp [Value.ownBlock] at hb ⊢; have := hoL.block b (by simp [Value.ownBlock, hb]); omega)
  have hm := (mvs_grown (hm.tr (Mvs.ofExt (Ext.new w5 _))) hg6 (by intro j hj; simp at hj; omega)).tr (Mvs.set w6 ⟨C, 7, none⟩ (.slice a6 2 c6) (.inr (.inr rfl)))
  have hfo6 := fro_set (i := 7) (u := .slice a6 2 c6) ho6 kC6
  have kA := set_oth kA hAC 7 (.slice a6 2 c6)
  have kB := set_oth kB hBC 7 (.slice a6 2 c6)
  have kN := set_oth kN (show og2 ≠ C by omega) 7 (.slice a6 2 c6)
  have kb := set_oth kb (show b1 ≠ C by omega) 7 (.slice a6 2 c6)
  have kC := set_blk kC6 7 (.slice a6 2 c6)
  have hoL := hoL.other (a := ⟨C, 7, none⟩) (by simp [Value.ownBlock]; omega) (.slice a6 2 c6)
  simp at kC
  clear hg6 hat6 c7 fC ho6 hO4 hfo kC5 ho3b hfo2 hko e7 e7a kC6
  generalize w6.setCell ⟨C, 7, none⟩ (.slice a6 2 c6) = w7 at *
  have hx7 : Ext V w7 := hm.ext hx2 (fun k hk => by omega)
  have hvo := hvo.ext hx7
  have hvd := hvd.ext hx7
  have hvL := hoL.rd
  have hvN := rdo_one kN (Rd.nil .u8 _)
  have hvM := hfo6.rdo
  have hxW := hxV.tr hx7
  have hbn : ∀ k : Int, 0 ≤ k ∧ k ≤ 255 → BytO [(k, ([] : List Int))] := fun k hk o ho => by
    obtain rfl : o = _ := by simpa using ho
    exact ⟨hk, fun x hx => by cases hx⟩
  have gF : (sg oFull (zeros 1420)).ok := sg_ok oFull_byt (zeros_byt _)
  have gL : (sg oFull (zeros 1421)).ok := sg_ok oFull_byt (zeros_byt _)
  have gN : (sg [(1, [])] (zeros 1420)).ok := sg_ok (hbn 1 (by decide)) (zeros_byt _)
  have gM : (sg ([(4, [])] ++ oFull) (zeros 1420)).ok := sg_ok (BytO.app (hbn 4 (by decide)) oFull_byt) (zeros_byt _)
  have lz : ∀ n : Nat, (zeros n).length = n := fun n => by simp [zeros]
  have tF : tput 1 2 (sg oFull (zeros 1420)) = ((sg oFull (zeros 1420)).lay O ((sg oFull (zeros 1420)).field 1 2 O), 0) := tput_fit hO (by show ¬ 1480 < 20 + O.length + (zeros 1420).length; rw [lz]; omega)
  have tL : tput 1 2 (sg oFull (zeros 1421)) = ([], 3) := tput_long hO (by show 1480 < 20 + O.length + (zeros 1421).length; rw [lz]; omega)
  have tN : tput 1 2 (sg [(1, [])] (zeros 1420)) = ([], 1) := tput_err (O := []) (E := 1) (by decide +kernel) (by decide)
  have tM : tput 1 2 (sg ([(4, [])] ++ oFull) (zeros 1420)) = ([], 3) := tput_err (O := []) (E := 3) (by decide +kernel) (by decide)
  have hb12 : (0 ≤ (1 : Int) ∧ (1 : Int) ≤ 4294967295) ∧ (0 ≤ (2 : Int) ∧ (2 : Int) ≤ 4294967295) ∧ (0 ≤ (3 : Int) ∧ (3 : Int) ≤ 4294967295) := by decide
  have hpF := fun (W : World) (hx : Ext w7 W) => tput_any 1 2 (sg oFull (zeros 1420)) _ _ W gF (hvo.ext hx) (hvd.ext hx) hb12.1 hb12.2.1 (by show (zeros 1420).length ≤ _; rw [lz]; omega)
  have hpL := fun (W : World) (hx : Ext w7 W) => tput_any 1 2 (sg oFull (zeros 1421)) _ _ W gL (hvo.ext hx) (hvL.ext hx) hb12.1 hb12.2.1 (by show (zeros 1421).length ≤ _; rw [lz]; omega)
  have hpN := fun (W : World) (hx : Ext w7 W) => tput_any 1 2 (sg [(1, [])] (zeros 1420)) _ _ W gN (hvN.ext hx) (hvd.ext hx) hb12.1 hb12.2.1 (by show (zeros 1420).length ≤ _; rw [lz]; omega)
  have hpM := fun (W : World) (hx : Ext w7 W) => tput_any 1 2 (sg ([(4, [])] ++ oFull) (zeros 1420)) _ _ W gM (hvM.ext hx) (hvd.ext hx) hb12.1 hb12.2.1 (by show (zeros 1420).length ≤ _; rw [lz]; omega)
  rw [tF] at hpF
  rw [tL] at hpL
  rw [tN] at hpN
  rw [tM] at hpM
  have hLb : Byt ((sg oFull (zeros 1420)).lay O ((sg oFull (zeros 1420)).field 1 2 O)) := lay_byt gF hOb (by omega) (field_bd gF hb12.1 hb12.2.1 hOb (by omega))
  have hLl : ((sg oFull (zeros 1420)).lay O ((sg oFull (zeros 1420)).field 1 2 O)).length = 1480 := by rw [lay_len]; show 20 + O.length + (zeros 1420).length = 1480; rw [lz]; omega
  have hL3 : terr 1 3 ((sg oFull (zeros 1420)).lay O ((sg oFull (zeros 1420)).field 1 2 O)) = 20 := by
    rw [terr_lay gF hb12.1 hb12.2.1 hb12.1 hb12.2.2 hO hOb (by omega) (by omega) (by show 20 + O.length + (zeros 1420).length ≤ 1480; rw [lz]; omega)]
    decide
  dsimp only [Sg.cells] at hpF hpL hpN hpM
  generalize (sg oFull (zeros 1420)).lay O ((sg oFull (zeros 1420)).field 1 2 O) = L at *
  have HPF := Lib.hid hpF
  have HPL := Lib.hid hpL
  have HPN := Lib.hid hpN
  have HPM := Lib.hid hpM
  have HLB := Lib.hid hLb
  have HLL := Lib.hid hLl
  have HL3 := Lib.hid hL3
  clear hpF hpL hpN hpM hLb hLl hL3 tF tL tN tM gF gL gN gM hvo hvd hvL hvN hvM hbl hoL hfo6 hm hx7 hbn
  have e0 := cell_blk kb 0
  have e1 := cell_blk kb 1
  have e2 := cell_blk kb 2
  have e3 := cell_blk kb 3
  have e4 := cell_blk kb 4
  have e5 := cell_blk kb 5
  have e6 := cell_blk kb 6
  have e7 := cell_blk kb 7
  have e8 := cell_blk kb 8
  simp at e0 e1 e2 e3 e4 e5 e6 e7 e8
  go_wp2_with fail
  refine (HPF.out _ (Ext.rfl' _)).mono ?_
  rintro e w8 ⟨u, rfl, hu, hx8⟩
  have hurF := hu.rd
  obtain ⟨aF, cF, hFe, -, -, -⟩ := id hurF
  rw [HLL.out] at hFe
  subst hFe
  clear hu e0 e1 e2 e3 e4 e5 e6 e7 e8
  have kA := hx8.block kA
  have e0 := cell_blk kA 0
  have e1 := cell_blk kA 1
  have e2 := cell_blk kA 2
  have e3 := cell_blk kA 3
  have e4 := cell_blk kA 4
  have e5 := cell_blk kA 5
  have e6 := cell_blk kA 6
  have e7 := cell_blk kA 7
  have e8 := cell_blk kA 8
  simp at e0 e1 e2 e3 e4 e5 e6 e7 e8
  go_wp2_with fail
  refine (HPL.out _ hx8).mono ?_
  rintro e w9 ⟨u, rfl, hu, hx9⟩
  obtain ⟨a9, n9, c9, rfl⟩ := hu.rd.shape
  have hurF := hurF.ext hx9
  have hx9 := hx8.tr hx9
  clear hu e0 e1 e2 e3 e4 e5 e6 e7 e8
  have kB := hx9.block kB
  have e0 := cell_blk kB 0
  have e1 := cell_blk kB 1
  have e2 := cell_blk kB 2
  have e3 := cell_blk kB 3
  have e4 := cell_blk kB 4
  have e5 := cell_blk kB 5
  have e6 := cell_blk kB 6
  have e7 := cell_blk kB 7
  have e8 := cell_blk kB 8
  simp at e0 e1 e2 e3 e4 e5 e6 e7 e8
  go_wp2_with fail
  refine (HPN.out _ hx9).mono ?_
  rintro e w10 ⟨u, rfl, hu, hx10⟩
  obtain ⟨a10, n10, c10, rfl⟩ := hu.rd.shape
  have hurF := hurF.ext hx10
  have hx10 := hx9.tr hx10
  clear hu e0 e1 e2 e3 e4 e5 e6 e7 e8
  have kC := hx10.block kC
  have e0 := cell_blk kC 0
  have e1 := cell_blk kC 1
  have e2 := cell_blk kC 2
  have e3 := cell_blk kC 3
  have e4 := cell_blk kC 4
  have e5 := cell_blk kC 5
  have e6 := cell_blk kC 6
  have e7 := cell_blk kC 7
  have e8 := cell_blk kC 8
  simp at e0 e1 e2 e3 e4 e5 e6 e7 e8
  go_wp2_with fail
  refine (HPM.out _ hx10).mono ?_
  rintro e w11 ⟨u, rfl, hu, hx11⟩
  obtain ⟨a11, n11, c11, rfl⟩ := hu.rd.shape
  have hurF := hurF.ext hx11
  have hx11 := hx10.tr hx11
  clear hu e0 e1 e2 e3 e4 e5 e6 e7 e8
  obtain ⟨x11a, hr, ho, hy1⟩ := run_mk isU8 w11 w11.heap.size .i64 .i64 1481 (by omega) (by unfold maxLen; omega) (Nat.le_refl _)
  have hr : Sem.run Try.prog (Instr.makeSlice 25 (.int .i64 1481) (.int .i64 1481)) w11 = .ok (.slice (some ⟨w11.heap.size, 0, none⟩) 1481 1481) x11a := hr
  have hor : Rd .u8 x11a (.slice (some ⟨w11.heap.size, 0, none⟩) 1481 1481) (zeros 1481) := ho.rd
  clear ho
  go_wp2_with fail
  clear hr
  refine (tparse_any 1 2 _ (zeros 1481) _ hor (zeros_byt _) hb12.1 hb12.2.1 (by rw [lz]; omega)).mono ?_
  rw [tpar_err, show terr 1 2 (zeros 1481) = 3 from by unfold terr; rw [if_pos (by rw [lz]; omega)]]
  rintro e x11b ⟨vo, vd, rfl, hfo, hfr, hy2⟩
  obtain ⟨ao, co, rfl⟩ := hfo.rdo.shape
  obtain ⟨ad, nd, cd, rfl⟩ := hfr.rd.shape
  clear hfo hfr hor
  generalize (tpar 1 2 (zeros 1481)).1 = q
  dsimp only [Sg.cells]
  go_upto_region 11 with (fail)
  generalize hW : World.alloc _ _ = x11c
  have hy : Ext w11 x11c := by rw [← hW]; exact (hy1.tr hy2).al _
  clear hW hy1 hy2
  have hurF := hurF.ext hy
  have hx := hx11.tr hy
  clear hy
  obtain ⟨x12a, hr, ho, hy1⟩ := run_mk isU8 x11c x11c.heap.size .i64 .i64 19 (by omega) (by unfold maxLen; omega) (Nat.le_refl _)
  have hr : Sem.run Try.prog (Instr.makeSlice 25 (.int .i64 19) (.int .i64 19)) x11c = .ok (.slice (some ⟨x11c.heap.size, 0, none⟩) 19 19) x12a := hr
  have hor : Rd .u8 x12a (.slice (some ⟨x11c.heap.size, 0, none⟩) 19 19) (zeros 19) := ho.rd
  clear ho
  go_wp2_with fail
  clear hr
  refine (tparse_any 1 2 _ (zeros 19) _ hor (zeros_byt _) hb12.1 hb12.2.1 (by rw [lz]; omega)).mono ?_
  rw [tpar_err, show terr 1 2 (zeros 19) = 4 from by decide +kernel]
  rintro e x12b ⟨vo, vd, rfl, hfo, hfr, hy2⟩
  obtain ⟨ao, co, rfl⟩ := hfo.rdo.shape
  obtain ⟨ad, nd, cd, rfl⟩ := hfr.rd.shape
  clear hfo hfr hor
  generalize (tpar 1 2 (zeros 19)).1 = q
  dsimp only [Sg.cells]
  go_upto_region 12 with (fail)
  generalize hW : World.alloc _ _ = x12c
  have hy : Ext x11c x12c := by rw [← hW]; exact (hy1.tr hy2).al _
  clear hW hy1 hy2
  have hurF := hurF.ext hy
  have hx := hx.tr hy
  clear hy
  obtain ⟨x13a, hr, ho, hy1⟩ := run_mk isU8 x12c x12c.heap.size .i64 .i64 20 (by omega) (by unfold maxLen; omega) (Nat.le_refl _)
  have hr : Sem.run Try.prog (Instr.makeSlice 25 (.int .i64 20) (.int .i64 20)) x12c = .ok (.slice (some ⟨x12c.heap.size, 0, none⟩) 20 20) x13a := hr
  have hor : Rd .u8 x13a (.slice (some ⟨x12c.heap.size, 0, none⟩) 20 20) (zeros 20) := ho.rd
  clear ho
  go_wp2_with fail
  clear hr
  refine (tparse_any 1 2 _ (zeros 20) _ hor (zeros_byt _) hb12.1 hb12.2.1 (by rw [lz]; omega)).mono ?_
  rw [tpar_err, show terr 1 2 (zeros 20) = 5 from by decide +kernel]
  rintro e x13b ⟨vo, vd, rfl, hfo, hfr, hy2⟩
  obtain ⟨ao, co, rfl⟩ := hfo.rdo.shape
  obtain ⟨ad, nd, cd, rfl⟩ := hfr.rd.shape
  clear hfo hfr hor
  generalize (tpar 1 2 (zeros 20)).1 = q
  dsimp only [Sg.cells]
  go_upto_region 13 with (fail)
  generalize hW : World.alloc _ _ = x13c
  have hy : Ext x12c x13c := by rw [← hW]; exact (hy1.tr hy2).al _
  clear hW hy1 hy2
  have hurF := hurF.ext hy
  have hx := hx.tr hy
  clear hy
  go_wp2_with fail
  refine (tparse_any 1 3 _ L _ hurF HLB.out hb12.1 hb12.2.2 (by have := HLL.out; omega)).mono ?_
  rw [tpar_err, HL3.out]
  rintro e w13 ⟨vo, vd, rfl, hfo, hfr, hy2⟩
  obtain ⟨ao, co, rfl⟩ := hfo.rdo.shape
  obtain ⟨ad, nd, cd, rfl⟩ := hfr.rd.shape
  clear hfo hfr hurF
  generalize (tpar 1 3 L).1 = q
  dsimp only [Sg.cells]
  go_upto_region 14 with (fail)
  generalize hW : World.alloc _ _ = W14
  have hx := hx.tr (show Ext _ W14 by rw [← hW]; exact hy2.al _)
  have hxW := hxW.tr hx
  clear hW hy2 hx HPF HPL HPN HPM HLB HLL HL3 kA kB kC kb kN hx8 hx9 hx10 hx11
  have hn4 : BytO [((4 : Int), ([] : List Int))] := fun o ho => by
    obtain rfl : o = _ := by simpa using ho
    exact ⟨by decide, fun x hx => by cases hx⟩
  go_wp2_with fail
  refine (tput_lit [0, 0, 0, 0, 0, 0, 0, 0, 0, 0, 0, 0, 96, 0, 0, 0, 146, 219, 0, 0, 4, 2, 0, 0, 9] 0 1 2 (sg [(4, [])] [9]) _ _ _ (rdo_one (new_blk2 _ _ _) (Rd.nil _ _)) (rd_new .u8 _ _ _ [9] (by simp) rfl rfl rfl (by decide)) (sg_ok hn4 (byt_of rfl)) ⟨hb12.1, hb12.2.1⟩ (by decide) (by decide +kernel)).mono ?_
  rintro e w15 ⟨u, rfl, hu, hy⟩
  have hxW := hxW.tr (((Ext.new W14 _).al _).tr hy)
  have hur := hu.rd
  obtain ⟨ac, cc, hce, -, -, -⟩ := id hur
  subst hce
  clear hu hy
  go_upto_region 17 with (fail)
  generalize hW : World.alloc w15 _ = W16
  have hy : Ext w15 W16 := by rw [← hW]; exact Ext.new _ _
  have kq : W16.heap[w15.heap.size]? = some (.cells #[.slice ac 25 cc] 25) := by rw [← hW]; exact heap_alloc_new w15 _
  have hur := hur.ext hy
  have hxW := hxW.tr hy
  clear hW hy
  generalize w15.heap.size = Bq at *
  have hsp := fun (at_ : Nat) (hat : at_ < 25) (x : Int) (hx : 0 ≤ x ∧ x ≤ 255) (W : World) (hy : Ext W16 W) => spoilt_any [0, 0, 0, 0, 0, 0, 0, 0, 0, 0, 0, 0, 96, 0, 0, 0, 146, 219, 0, 0, 4, 2, 0, 0, 9] rfl (byt_of rfl) at_ hat x hx Bq _ W (hy.block kq) (hur.ext hy)
  have p1 := hsp 12 (by decide) 64 (by decide)
  have p2 := hsp 12 (by decide) 112 (by decide)
  have p3 := hsp 12 (by decide) 111 (by decide)
  have p4 := hsp 21 (by decide) 1 (by decide)
  have p5 := hsp 21 (by decide) 9 (by decide)
  have p6 := hsp 13 (by decide) 255 (by decide)
  rw [show terr 1 2 (spoil [0, 0, 0, 0, 0, 0, 0, 0, 0, 0, 0, 0, 96, 0, 0, 0, 146, 219, 0, 0, 4, 2, 0, 0, 9] 12 64) = 5 from by decide +kernel] at p1
  rw [show terr 1 2 (spoil [0, 0, 0, 0, 0, 0, 0, 0, 0, 0, 0, 0, 96, 0, 0, 0, 146, 219, 0, 0, 4, 2, 0, 0, 9] 12 112) = 4 from by decide +kernel] at p2
  rw [show terr 1 2 (spoil [0, 0, 0, 0, 0, 0, 0, 0, 0, 0, 0, 0, 96, 0, 0, 0, 146, 219, 0, 0, 4, 2, 0, 0, 9] 12 111) = 0 from by decide +kernel] at p3
  rw [show terr 1 2 (spoil [0, 0, 0, 0, 0, 0, 0, 0, 0, 0, 0, 0, 96, 0, 0, 0, 146, 219, 0, 0, 4, 2, 0, 0, 9] 21 1) = 5 from by decide +kernel] at p4
  rw [show terr 1 2 (spoil [0, 0, 0, 0, 0, 0, 0, 0, 0, 0, 0, 0, 96, 0, 0, 0, 146, 219, 0, 0, 4, 2, 0, 0, 9] 21 9) = 5 from by decide +kernel] at p5
  rw [show terr 1 2 (spoil [0, 0, 0, 0, 0, 0, 0, 0, 0, 0, 0, 0, 96, 0, 0, 0, 146, 219, 0, 0, 4, 2, 0, 0, 9] 13 255) = 0 from by decide +kernel] at p6
  have P1 := Lib.hid p1
  have P2 := Lib.hid p2
  have P3 := Lib.hid p3
  have P4 := Lib.hid p4
  have P5 := Lib.hid p5
  have P6 := Lib.hid p6
  clear hsp p1 p2 p3 p4 p5 p6
  have eq := cell_blk kq 0
  simp at eq
  go_wp2_with fail
  refine (P1.out _ (Ext.rfl' _)).mono ?_
  rintro e v1 ⟨rfl, hv1⟩
  go_wp2_with fail
  refine (P2.out _ hv1).mono ?_
  rintro e v2 ⟨rfl, hv2⟩
  have hv2 := hv1.tr hv2
  go_wp2_with fail
  refine (P3.out _ hv2).mono ?_
  rintro e v3 ⟨rfl, hv3⟩
  have hv3 := hv2.tr hv3
  go_wp2_with fail
  refine (P4.out _ hv3).mono ?_
  rintro e v4 ⟨rfl, hv4⟩
  have hv4 := hv3.tr hv4
  go_wp2_with fail
  refine (P5.out _ hv4).mono ?_
  rintro e v5 ⟨rfl, hv5⟩
  have hv5 := hv4.tr hv5
  go_wp2_with fail
  refine (P6.out _ hv5).mono ?_
  rintro e v6 ⟨rfl, hv6⟩
  have hv6 := hv5.tr hv6
  go_wp2_with fail
  refine (length_any _ _ _ _ _ _ _ 255 _ 1 _ _ (by decide)).mono ?_
  rw [show sLen ((1 : Nat) : Int) 255 = 3 from by decide]
  rintro e v7 ⟨rfl, hv7⟩
  go_wp2_with fail
  refine (wakes6_any _).mono ?_
  rintro e v8 ⟨rfl, hv8⟩
  go_wp2_with fail
  go_ret
  exact ⟨rfl, hxW.tr (hv6.tr (((Ext.new v6 _).tr hv7).tr hv8))⟩
end Go.Proofs.Ytjaffcbadgpolaa.tcpKnown

/-
  Proved here: what opts.Put computes. Conditions: numbers within their kinds, at most 2^47 - 4096 bytes.
-/
import Derived.Test.YtbaidlkjbdeceaaGreatOpts
import Derived.Test.YtbaidlkjbdeceaaGreatRegion
import Derived.Test.YtbaidlkjbdeceaaGreatTailA
import Derived.Deep.Cut
namespace Go.Proofs.YtbaidlkjbdeceaaGreat
set_option maxRecDepth 200000
open Go.ChangeShapes Go.WideShapes Go.ChangeAt Go.RowKit Go.Cul Go.Loose
set_option linter.unusedVariables false
attribute [local go_sem] Loose.Still Loose.Upon Loose.vUpon

theorem neg_and3 : ∀ n : Nat, n ≤ 40 → bits .and .i64 (-(n : Int)) 3 = (pad n : Nat) := by
  have h : ∀ n : Fin 41, bits .and .i64 (-((n : Nat) : Int)) 3 = (pad n : Nat) := by decide +kernel
  intro n hn
  exact h ⟨n, by omega⟩

theorem run_app2 {P : Program} {k : IntKind} {t e : TypeId} {bytes : Nat} (is : IS P k t e bytes) (w : World) (base : Nat) (ty : TypeId) (v : Value) (l : List Int) (hown : Own w base e k v l) (u : Value) (r : List Int) (hr : Rd k w u r)
    (hlen : (l.length + r.length) * bytes ≤ 140737488355328) (h63 : l.length + r.length ≤ maxLen) (hbase : base ≤ w.heap.size) :
    ∃ v' w', (Builtin.append_ #[t, t] ty #[v, u]).run P w = .ok v' w' ∧ Own w' base e k v' (l ++ r) ∧ w.grownBy w' v.ownBlock ∧ (v'.ownBlock = v.ownBlock ∨ v'.ownBlock = some w.heap.size) ∧ Own w' base e k v l := by
  obtain ⟨v', w', hrun, h2, h3, h4⟩ := run_app is w base ty v l hown u r hr hlen h63 hbase
  obtain ⟨v2, w2, hrun2, -, h5⟩ := run_app_keep is w base ty v l (.inl hown) u r hr hlen h63 hbase
  rw [hrun] at hrun2
  cases hrun2
  exact ⟨v', w', hrun, h2, h3, h4, h5.own hown (Nat.le_refl _)⟩

theorem vupon_app {P : Program} {k : IntKind} {t e : TypeId} {bytes : Nat} (is : IS P k t e bytes) {o : Oper} {a : Act} {w : World} (s x : Operand)
    (ho : o.op = .call { callee := .builtin .append, args := #[s, x], argTypes := #[t, t] }) (base : Nat) (v : Value) (l : List Int) (hs : a.eval s = v) (hv : Own w base e k v l) (u : Value) (r : List Int) (hx : a.eval x = u) (hr : Rd k w u r)
    (hlen : (l.length + r.length) * bytes ≤ 140737488355328) (h63 : l.length + r.length ≤ maxLen) (hbase : base ≤ w.heap.size) {K : Act → World → Prop}
    (h : ∀ v' w', Own w' base e k v' (l ++ r) → w.grownBy w' v.ownBlock → (v'.ownBlock = v.ownBlock ∨ v'.ownBlock = some w.heap.size) → K (a.put o.dst v') w') : Loose.vUpon P o a K ((execOp a.eval o).run P w) := by
  obtain ⟨v', w', hrun, h2, h3, h4⟩ := run_app is w base o.type v l hv u r hr hlen h63 hbase
  unfold execOp
  simp only [ho, resolve, invoke, builtin, Sem.run_bind, Sem.run_pure, Result.andThen_ok, List.map_toArray, List.map_cons, List.map_nil, hs, hx, hrun, Loose.vUpon]
  exact h v' w' h2 h3 h4
theorem upon_app_own {P : Program} {k : IntKind} {t e : TypeId} {bytes : Nat} (is : IS P k t e bytes) {o : Oper} {a : Act} {w : World} (s x : Operand)
    (ho : o.op = .call { callee := .builtin .append, args := #[s, x], argTypes := #[t, t] }) (base : Nat) (v : Value) (l : List Int) (hs : a.eval s = v) (hv : Own w base e k v l) (u : Value) (r : List Int) (hx : a.eval x = u) (hr : Rd k w u r)
    (hlen : (l.length + r.length) * bytes ≤ 140737488355328) (h63 : l.length + r.length ≤ maxLen) (hbase : base ≤ w.heap.size) {T : World → World → Prop} {S : Value → World → Prop}
    (h : ∀ v' w', Own w' base e k v' (l ++ r) → w.grownBy w' v.ownBlock → (v'.ownBlock = v.ownBlock ∨ v'.ownBlock = some w.heap.size) → Own w' base e k v l → T w w' ∧ S v' w') : Loose.Upon P T S w ((execOp a.eval o).run P w) := by
  obtain ⟨v', w', hrun, h2, h3, h4, h5⟩ := run_app2 is w base o.type v l hv u r hr hlen h63 hbase
  unfold execOp
  simp only [ho, resolve, invoke, builtin, Sem.run_bind, Sem.run_pure, Result.andThen_ok, List.map_toArray, List.map_cons, List.map_nil, hs, hx, hrun, Loose.Upon]
  exact h v' w' h2 h3 h4 h5
theorem mvs_of_grown {w w' : World} {r : Option Nat} (h : w.grownBy w' r) : Mvs (fun k => r = some k) w w' := ⟨h.os, h.tape, h.output, h.size, fun k hk hS => h.block k hk (fun e => hS e.symm)⟩

/-- Only the own slice's block may have turned, and it is still owned. -/
def Grw (base : Nat) (v : Value) (l : List Int) (a b : World) : Prop := Mvs (fun k => v.ownBlock = some k) a b ∧ (Own a base 5 .u8 v l → Own b base 5 .u8 v l)
theorem Grw.refl (base : Nat) (v : Value) (l : List Int) (w : World) : Grw base v l w w := ⟨Mvs.refl _ _, fun h => h⟩
theorem Grw.ofExt {base : Nat} {v : Value} {l : List Int} {a b : World} (h : Ext a b) : Grw base v l a b := ⟨Mvs.ofExt h, fun k => k.kept h⟩
theorem Grw.tr {base : Nat} {v : Value} {l : List Int} {a b c : World} (h : Grw base v l a b) (k : Grw base v l b c) : Grw base v l a c := ⟨h.1.tr k.1, fun q => k.2 (h.2 q)⟩

theorem rd_blk2 {w : World} {g : Nat} {x y : Int} {t : TypeId} {k : IntKind} (h : w.heap[g]? = some (.cells #[.int k x, .int k y] t)) : Rd k w (.slice (some ⟨g, 0, none⟩) 2 2) [x, y] := by
  refine ⟨_, 2, rfl, Nat.le_refl _, by decide, .inr ⟨g, 0, rfl, fun i hi => ?_⟩⟩
  have hi : i < 2 := by simpa using hi
  rcases (by omega : i = 0 ∨ i = 1) with rfl | rfl
  · rw [Nat.zero_add, cell_blk h 0]; rfl
  · rw [Nat.zero_add, cell_blk h 1]; rfl
/-- A new slice of two numbers. -/
def New2 (N : Nat) (x y : Int) (t : TypeId) (v : Value) (w : World) : Prop := ∃ g, N ≤ g ∧ v = .slice (some ⟨g, 0, none⟩) 2 2 ∧ w.heap[g]? = some (.cells #[.int .u8 x, .int .u8 y] t)

theorem flat_take_le (os : List Op1) (k : Nat) : (flat (os.take k)).length ≤ (flat os).length := by
  conv => rhs; rw [← List.take_append_drop k os, flat_app, List.length_append]
  omega
theorem isInt : Tryz.prog.underlying 3 = some (.int .i64) := by kernel_rfl

set_option maxHeartbeats 400000 in
theorem oput_any (v : Value) (os : List Op1) (w : World) (hv : RdO w v os) (hb : BytO os) :
    Calls Tryz.prog 59 #[v] w fun e w' => ∃ u, e = .returned (.tuple #[u, .int .i64 (oput os).2]) ∧ Own w' w.heap.size 5 .u8 u (oput os).1 ∧ Ext w w' := by
  have hH := optHas_any 91 #[] badO v os w hv (fun _ _ => by simp [go_sem]) (fun i u w' hi hx hu => put1o_any _ u _ w' hu)
  obtain ⟨a, c, rfl, hc1, hc2, hr⟩ := id hv
  unfold maxLen at hc2
  have HR := Lib.hid hr
  have HB := Lib.hid hb
  clear hr hb hv
  rcases hbad : os.any badO with _ | _
  · have hU : Hid (oput os = if 40 < (flat os).length then ([], 3) else (flat os ++ zeros (pad (flat os).length), 0)) := by unfold oput; rw [hbad]; exact rfl
    rw [hbad] at hH
    have HH := Lib.hid hH
    have HBAD := Lib.hid hbad
    clear hH hbad
    go_enter Tryz.func59, Tryz.ntmps59
    go_wp2_with fail
    refine HH.out.mono ?_
    rintro e x0 ⟨rfl, hx0⟩
    go_wp2_with fail
    go_loopw [4, 11] (fun u i wr => ∃ k : Nat, k ≤ os.length ∧ i = .int .i64 k ∧ Own wr w.heap.size 5 .u8 u (flat (os.take k)) ∧ (flat (os.take k)).length ≤ 40 ∧ Ext w wr) (fun _ i _ => os.length - (intOf i).toNat)
    case atStart => exact ⟨0, Nat.zero_le _, rfl, Own.nil _ _ _ _, by simp [flat], hx0⟩
    case round =>
      obtain ⟨k, hk, rfl, hown, hl40, hx⟩ := hrel
      by_cases hlt : k < os.length
      · rcases HR.out with h0 | ⟨b, o, rfl, hrw⟩
        · rw [h0] at hlt; simp at hlt
        obtain ⟨ud, e0, e1, hu⟩ := hrw k hlt
        clear hrw
        have e0 := hx.cell e0
        have e1 := hx.cell e1
        have ht := Lib.hid (flat_take hlt)
        have hkb := (HB.out.at k).1
        have hnb : (os.getD k (0, [])).2.length ≤ 38 := by
          have h := List.any_eq_false.1 HBAD.out (os.getD k (0, [])) (by simp [List.getD, hlt])
          unfold badO at h
          simp only [Bool.or_eq_true, decide_eq_true_eq, not_or] at h
          omega
        have hu0 := hu
        obtain ⟨ad, nd, cd, rfl⟩ := hu.shape
        generalize hL : flat (os.take k) = L at *
        clear hL
        generalize os.getD k (0, []) = x at *
        obtain ⟨kd, D⟩ := x
        dsimp only at e0 hu hu0 hkb hnb
        obtain ⟨ad', cd', hud, hcd1, hcd2, -⟩ := id hu
        cases hud
        go_upto_region 7 with (fail)
        generalize hW : wr.alloc _ = W
        have kx : W.heap[wr.heap.size]? = some (.cells #[.int .u8 kd, .slice ad D.length cd] 48) := by rw [← hW]; exact heap_alloc_new wr _
        have hxW : Ext w W := by rw [← hW]; exact hx.al _
        have hown0 := hown
        have hown := hown.kept (w' := W) (by rw [← hW]; exact Ext.new _ _)
        have hgS : ¬ (u4.ownBlock = some wr.heap.size) := fun he => by have := (hown0.block _ he).2; omega
        have hwW : w.heap.size ≤ W.heap.size := hxW.size
        have hcv : IntKind.u8.wrap ((D.length : Int) + 2) = D.length + 2 := by simp [IntKind.wrap, IntKind.bits, IntKind.signed]; omega
        have hcw : IntKind.i64.wrap ((D.length : Int) + 2) = D.length + 2 := by rw [IntWalk.i64_in _ (by omega)]
        have hSb : ∀ k, u4.ownBlock = some k → w.heap.size ≤ k := fun k hk => (hown.block k hk).1
        clear hW hx e0 e1 hown0 hu
        generalize wr.heap.size = g at *
        refine LooseT.wp_region_tailR 12 (Grw w.heap.size u4 L) (LooseT.tk [(9, Grw w.heap.size u4 L)]) [(8, New2 W.heap.size kd (D.length + 2) 5), (9, fun v w' => Own w' w.heap.size 5 .u8 v (L ++ [kd, (D.length : Int) + 2]))] (Grw.refl _ _ _ _) (Grw.ofExt (Ext.draw _)) ?_ ?_ (by kernel_rfl) (by kernel_rfl) (by kernel_rfl) ?_
        · intro k a b c h1 h2
          simp only [LooseT.tk] at h2
          split at h2
          · exact h1.tr h2
          · exact h1.tr (Grw.ofExt h2)
        · refine LooseT.lastsT_cons (fun j v w1 w2 hj h hs => ?_) (LooseT.lastsT_cons (fun j v w1 w2 hj h hs => ?_) LooseT.lastsT_nil)
          · obtain ⟨g', h1, h2, h3⟩ := hs
            simp only [LooseT.tk] at h
            split at h
            · exact ⟨g', h1, h2, h.1.keep h3 (fun he => by have := (hown.block _ he).2; omega)⟩
            · exact ⟨g', h1, h2, Ext.block h h3⟩
          · simp only [LooseT.tk] at h
            rw [if_neg hj] at h
            exact hs.kept h
        simp only [List.take, List.drop]
        iterate 2
          apply LooseT.wpL_none rfl rfl
          · intro w' hw' hn'; go_simp; exact rfl
          intro K hK; go_simp; refine hK _ _ ?_; clear hK K
        apply LooseT.wpL_none rfl rfl
        · intro w' hw' hn'; have q := cell_blk (Mvs.keep hw'.1 kx hgS) 0; simp at q; go_simp; exact rfl
        intro K hK; go_simp; refine hK _ _ ?_; clear hK K
        apply LooseT.wpL_none rfl rfl
        · intro w' hw' hn'; go_simp; exact rfl
        intro K hK; go_simp; refine hK _ _ ?_; clear hK K
        apply LooseT.wpL_none rfl rfl
        · intro w' hw' hn'; have q := cell_blk (Mvs.keep hw'.1 kx hgS) 1; simp at q; go_simp; exact rfl
        intro K hK; go_simp; refine hK _ _ ?_; clear hK K
        iterate 3
          apply LooseT.wpL_none rfl rfl
          · intro w' hw' hn'; go_simp; exact rfl
          intro K hK; go_simp; refine hK _ _ ?_; clear hK K
        apply LooseT.wpL_some rfl rfl
        · intro w' hw' hn'
          go_simp
          exact ⟨Ext.new _ _, _, Nat.le_trans (Nat.le_refl _) hw'.1.size, rfl, heap_alloc_new _ _⟩
        intro v8 w' hw' hD' hv8
        obtain ⟨g8, -, rfl, -⟩ := hv8
        clear hw' hD' w'
        intro K hK; go_simp; refine hK _ _ ?_; clear hK K
        apply LooseT.wpL_some rfl rfl
        · intro w' hw' hn'
          obtain ⟨g', h1, h2, h3⟩ : New2 W.heap.size kd (D.length + 2) 5 _ w' := hn' ⟨8, .data⟩ (by simp) rfl
          cases h2
          refine upon_app_own isU8 (.tmp 15) (.tmp 23) (by rfl) w.heap.size u4 L (by rfl) (hw'.2 hown) _ [kd, (D.length : Int) + 2] (by rfl) (rd_blk2 h3) (by simp; omega) (by simp [maxLen]; omega) (Nat.le_trans hwW hw'.1.size) (fun v' w'' q1 q2 q3 q4 => ⟨⟨mvs_of_grown q2, fun _ => q4⟩, q1⟩)
        intro v9 w' hw' hD' hv9
        clear hw' hD' w' hv9
        intro K hK; go_simp; refine hK _ _ ?_; clear hK K
        apply LooseT.wpL_none rfl rfl
        · intro w' hw' hn'; go_simp; exact rfl
        intro K hK; go_simp; refine hK _ _ ?_; clear hK K
        apply LooseT.wpL_none rfl rfl
        · intro w' hw' hn'; have q := cell_blk (Mvs.keep hw'.1 kx hgS) 1; simp at q; go_simp; exact rfl
        intro K hK; go_simp; refine hK _ _ ?_; clear hK K
        refine LooseT.wpL_nil ?_
        intro w' hw' hD'
        have hv9 := hD' 9
        simp [Loose.upd] at hv9
        have hu' : Rd .u8 w' (.slice ad D.length cd) D := hu0.ext (hw'.1.ext hxW hSb)
        apply wpVL_step rfl
        intro K hK
        refine vupon_app isU8 (.tmp 24) (.tmp 26) (by rfl) w.heap.size v9 _ (by rfl) hv9 _ D (by rfl) hu' (by simp; omega) (by simp [maxLen]; omega) (Nat.le_trans hwW hw'.1.size) (fun v' w'' q1 q2 q3 => ?_)
        have hx2 : Ext w w'' := hv9.below q2 (hw'.1.ext hxW hSb) (Nat.le_trans hwW hw'.1.size)
        refine hK _ _ ?_
        clear hK K
        iterate 1
          apply wpVL_step rfl
          intro K hK
          go_simp
          refine hK _ _ ?_
          clear hK K
        refine wpVL_nil ?_
        clear hw' hD' hv9 hu' q2 q3 hSb hwW hcv hcw kx hgS hown hxW hu0
        have hLL : L ++ [kd, (D.length : Int) + 2] ++ D = flat (os.take (k + 1)) := by rw [ht.out]; simp [ob]; omega
        have hlen : (L ++ [kd, (D.length : Int) + 2] ++ D).length = L.length + 2 + D.length := by simp; omega
        have hle := flat_take_le os (k + 1)
        rw [hLL] at q1 hlen
        generalize hLk : flat (os.take (k + 1)) = L' at *
        have hLk := Lib.hid hLk.symm
        obtain ⟨av, cv, rfl, -, -, -⟩ := id q1.rd
        by_cases h40 : 40 < L'.length
        · have hU2 : Hid (oput os = ([], 3)) := by unfold Hid; rw [hU.out, if_pos (by omega)]
          have h40' : (40 : Int) < L'.length := by omega
          clear hlen hle hLL
          go_wp2_with fail
          go_ret2
          rw [hU2.out]
          exact ⟨_, rfl, Own.nil _ _ _ _, hx2⟩
        · have h40' : ¬ (40 : Int) < L'.length := by omega
          have HL := Lib.hid hLL
          clear hlen hle hLL
          go_wp2_with fail
          go_roundw
          case rel => exact ⟨k + 1, by omega, by go_num, by rw [← hLk.out]; exact q1, by rw [← hLk.out]; omega, hx2⟩
          case measure => simp [intOf]; omega
      · obtain rfl : k = os.length := by omega
        rw [List.take_length] at hown hl40
        generalize hL : flat os = L at *
        have hU2 : Hid (oput os = (L ++ zeros (pad L.length), 0)) := by unfold Hid; rw [hU.out, if_neg (by omega)]
        have hn3 := neg_and3 L.length hl40
        have hpd : pad L.length ≤ 3 := by unfold pad; omega
        obtain ⟨av, cv, rfl, -, -, -⟩ := id hown.rd
        clear hU
        go_wp2_with (refine wpList_app_zeros isU8 isInt rfl (.tmp 32) (.tmp 36) rfl w.heap.size _ L rfl hown (pad L.length) rfl (by intro h; rw [h]; rfl) (by omega) (by unfold maxLen; omega) hx.size ?_; intro v2 w2 hown2 hg2)
        have hb2 : Ext w w2 := hown.below hg2 hx hx.size
        go_ret2
        rw [hU2.out]
        exact ⟨_, rfl, hown2, hb2⟩
  · have hU : Hid (oput os = ([], 1)) := by unfold oput; rw [hbad]; exact rfl
    rw [hbad] at hH
    have HH := Lib.hid hH
    clear hH hbad
    go_enter Tryz.func59, Tryz.ntmps59
    go_wp2_with fail
    refine HH.out.mono ?_
    rintro e x0 ⟨rfl, hx0⟩
    go_wp2_with fail
    go_ret2
    rw [hU.out]
    exact ⟨_, rfl, Own.nil _ _ _ _, hx0⟩
end Go.Proofs.YtbaidlkjbdeceaaGreat

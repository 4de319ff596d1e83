/-
  Proved here: the law SumChain returns true. Condition: each slice at most 2^47 - 4096 bytes (the form's own reach).
-/
import Derived.Test.YtlobceldlegnlaaSumWakes
import Derived.Test.YtlobceldlegnlaaSumE
import Derived.Test.YtlobceldlegnlaaLoose
import Derived.WalkLawsBesides
import Derived.Deep.QuietTactic
import Derived.BigQuiet
namespace Go.Proofs.Ytlobceldlegnlaa.sumChain
open Go.ChangeShapes Go.WideShapes Go.ChangeAt Go.RowKit Go.Cul Go.Loose
set_option linter.unusedVariables false
attribute [local go_sem] Loose.Still Loose.Upon

/-- What words that change add. -/
def sd (a b : List Int) : Nat → Int
  | 0 => 0
  | k + 1 => sd a b k + (a.getD k 0 - b.getD k 0)

theorem w16_at {l : List Int} (h : ∀ x ∈ l, 0 ≤ x ∧ x ≤ 65535) (i : Nat) : 0 ≤ l.getD i 0 ∧ l.getD i 0 ≤ 65535 := by
  by_cases hi : i < l.length
  · have : l.getD i 0 = l[i] := by simp [List.getD, hi]
    rw [this]; exact h _ (List.getElem_mem hi)
  · have : l.getD i 0 = 0 := by simp [List.getD, List.getElem?_eq_none (show l.length ≤ i by omega)]
    rw [this]; decide
theorem mod_step {x x' f s s' p q : Int} (h : x' % 65535 = (x + p - q) % 65535) (hx : x % 65535 = (f + s) % 65535) (hs : s' = s + (p - q)) : x' % 65535 = (f + s') % 65535 := by omega
theorem mod_step' {x x' f t s s' p q : Int} (h : x' % 65535 = (x + p - q) % 65535) (hx : x % 65535 = (f + (t - s)) % 65535) (hs : s = s' + (p - q)) : x' % 65535 = (f + (t - s')) % 65535 := by omega

theorem mod_back {x x' f t s s' p q : Int} (h : x' % 65535 = (x + q - p) % 65535) (hx : x % 65535 = (f + (t - s)) % 65535) (hs : s' = s + (p - q)) : x' % 65535 = (f + (t - s')) % 65535 := by omega
theorem csum_app {l r : List Int} (he : l.length % 2 = 0) (hl : Byt l) (hr : Byt r) : csum (l ++ r) = fold16 (csum l + csum r) := by
  unfold csum
  rw [weigh_app, Nat.zero_add, weigh_par l.length 0 r (by omega), fold16_add_l (weigh_bd 0 l hl).1 (fold16_bd (weigh_bd 0 r hr).1).1, fold16_add_r (weigh_bd 0 l hl).1 (weigh_bd 0 r hr).1]
theorem fold_two {a b : Int} (ha : 0 ≤ a ∧ a ≤ 65535) (hb : 0 ≤ b ∧ b ≤ 65535) : fold16 (a + b) = (a + b) % 65536 + (a + b) / 65536 := by unfold fold16; split <;> omega

theorem walk (w : World) (f : Int) (hf : 0 ≤ f ∧ f ≤ 65535) (v1 : Value) (l1 : List Int) (r1 : Rd .u16 w v1 l1) (b1 : ∀ x ∈ l1, 0 ≤ x ∧ x ≤ 65535) (n1 : l1.length * 2 ≤ 140737488351232)
    (v2 : Value) (l2 : List Int) (r2 : Rd .u16 w v2 l2) (b2 : ∀ x ∈ l2, 0 ≤ x ∧ x ≤ 65535) (n2 : l2.length * 2 ≤ 140737488351232)
    (v3 : Value) (l3 : List Int) (r3 : Rd .u8 w v3 l3) (b3 : Byt l3) (n3 : l3.length * 1 ≤ 140737488351232)
    (v4 : Value) (l4 : List Int) (r4 : Rd .u8 w v4 l4) (b4 : Byt l4) (n4 : l4.length * 1 ≤ 140737488351232) :
    Calls Try.prog 6 #[.int .u16 f, v1, v2, v3, v4] w fun e w' => e = .returned (.bool true) ∧ Ext w w' := by
  have r4' := r4
  obtain ⟨a4, c4, rfl, -⟩ := r4'
  obtain ⟨a1, c1, rfl, hc1, hm1, hr1⟩ := r1
  obtain ⟨a2, c2, rfl, hc2, hm2, hr2⟩ := r2
  have Hr1 := Lib.hid hr1
  have Hr2 := Lib.hid hr2
  have B1 := Lib.hid b1
  have B2 := Lib.hid b2
  have B3 := Lib.hid b3
  have B4 := Lib.hid b4
  clear hr1 hr2 b1 b2 b3 b4
  unfold maxLen at hm1 hm2
  obtain ⟨n, hn⟩ : ∃ n : Nat, n = min (min l1.length l2.length) 30 := ⟨_, rfl⟩
  have hmin : ∀ (ts : Array TypeId) (t : TypeId) w, (Builtin.min_ ts t #[.int .i64 (l1.length : Nat), .int .i64 (l2.length : Nat), .int .i64 30]).run Try.prog w = .ok (.int .i64 (n : Nat)) w := by
    intro ts t w
    simp only [Builtin.min_, List.foldlM, Builtin.min2, Sem.run_pure, pure_bind]
    congr 2
    split <;> split <;> omega
  have hn1 : n ≤ l1.length := by omega
  have hn2 : n ≤ l2.length := by omega
  have hn3 : n ≤ 30 := by omega
  clear hn
  go_enter Try.func6, Try.ntmps6
  go_wp2_with fail
  go_loopw [12, 13, 14] (fun th bk i wr => ∃ (k : Nat) (x y : Int), k ≤ n ∧ i = .int .i64 k ∧ th = .int .u16 x ∧ bk = .int .u16 y ∧ (0 ≤ x ∧ x ≤ 65535) ∧ (0 ≤ y ∧ y ≤ 65535) ∧
      Hid (x % 65535 = (f + sd l1 l2 k) % 65535) ∧ Hid (y % 65535 = (f + (sd l1 l2 n - sd l1 l2 (n - k))) % 65535) ∧ Ext w wr) (fun _ _ i _ => n - (intOf i).toNat)
  case atStart => exact ⟨0, f, f, Nat.zero_le _, rfl, rfl, rfl, hf, hf, by simp [sd, Hid], by simp [Hid], Ext.rfl' w⟩
  case round =>
    obtain ⟨k, x, y, hk, rfl, rfl, rfl, hx, hy, mx, my, hxw⟩ := hrel
    by_cases hlt : k < n
    · rcases Hr1.out with h0 | ⟨bb1, o1, rfl, hrw1⟩
      · rw [h0] at hn1; simp at hn1; omega
      rcases Hr2.out with h0 | ⟨bb2, o2, rfl, hrw2⟩
      · rw [h0] at hn2; simp at hn2; omega
      have e1 := hxw.cell (hrw1 k (by omega))
      have e2 := hxw.cell (hrw2 k (by omega))
      have e3 := hxw.cell (hrw1 (n - 1 - k) (by omega))
      have e4 := hxw.cell (hrw2 (n - 1 - k) (by omega))
      have hp := w16_at B1.out k
      have hq := w16_at B2.out k
      have hp' := w16_at B1.out (n - 1 - k)
      have hq' := w16_at B2.out (n - 1 - k)
      have s1 : sd l1 l2 (k + 1) = sd l1 l2 k + (l1.getD k 0 - l2.getD k 0) := rfl
      have s2 : sd l1 l2 (n - k) = sd l1 l2 (n - (k + 1)) + (l1.getD (n - 1 - k) 0 - l2.getD (n - 1 - k) 0) := by
        rw [show n - k = (n - (k + 1)) + 1 from by omega, show n - 1 - k = n - (k + 1) from by omega]; rfl
      have x1 := cword_bd hx.1 hx.2 hp.1 hp.2 hq.1 (b := l2.getD k 0)
      have x2 := cword_mod hx.1 hx.2 hp.1 hp.2 hq.1 (b := l2.getD k 0)
      have y1 := cword_bd hy.1 hy.2 hp'.1 hp'.2 hq'.1 (b := l2.getD (n - 1 - k) 0)
      have y2 := cword_mod hy.1 hy.2 hp'.1 hp'.2 hq'.1 (b := l2.getD (n - 1 - k) 0)
      have mx' := mod_step x2 mx.out s1
      have my' := mod_step' y2 my.out s2
      have MX := Lib.hid mx'
      have MY := Lib.hid my'
      clear hrw1 hrw2 s1 s2 x2 y2 mx' my' mx my
      generalize l1.getD k 0 = p at *
      generalize l2.getD k 0 = q at *
      generalize l1.getD (n - 1 - k) 0 = p' at *
      generalize l2.getD (n - 1 - k) 0 = q' at *
      have X1 := Lib.hid x1
      have Y1 := Lib.hid y1
      clear x1 y1
      have HW1 : Hid (IntKind.i64.wrap ((n : Int) - 1) = (n : Int) - 1) := IntWalk.i64_in _ (by omega)
      have HW2 : Hid (IntKind.i64.wrap ((n : Int) - 1 - k) = ((n - 1 - k : Nat) : Int)) := by unfold Hid; rw [IntWalk.i64_in _ (by omega)]; omega
      have k1 : k < l1.length := by omega
      have k2 : k < l2.length := by omega
      have k3 : n - 1 - k < l1.length := by omega
      have k4 : n - 1 - k < l2.length := by omega
      go_wp2_with fail
      refine wp_region_grow [(9, is (.int .u16 (cword x p q)))] (lasts_is lasts_nil) (by kernel_rfl) (by kernel_rfl) ?_
      iterate 9
        apply wpL_none rfl rfl
        · intro w' hw' hn'; have d1 := Ext.cell hw' e1; have d2 := Ext.cell hw' e2; go_simp; exact rfl
        intro K hK; go_simp; refine hK _ _ ?_; clear hK K
      apply wpL_some rfl rfl
      · intro w' hw' hn'
        go_simp
        refine ⟨Ext.rfl' _, ?_⟩
        refine (word_any _ _ _ _ hx.1 hx.2 hp.1 hp.2 hq.1 hq.2).mono ?_
        rintro e w2 ⟨rfl, rfl⟩
        exact ⟨_, rfl, Ext.rfl' _, rfl⟩
      intro v w' hw' hD' hv
      obtain rfl : v = _ := hv
      clear hw' hD' w'
      intro K hK; go_simp; refine hK _ _ ?_; clear hK K
      iterate 1
        apply wpL_none rfl rfl
        · intro w' hw' hn'; go_simp; exact rfl
        intro K hK; go_simp; refine hK _ _ ?_; clear hK K
      refine wpL_nil ?_
      intro w2 hw2 _
      clear e1 e2
      replace e3 := Ext.cell hw2 e3
      replace e4 := Ext.cell hw2 e4
      go_wp2_with fail
      refine wp_region_grow [(15, is (.int .u16 (cword y p' q')))] (lasts_is lasts_nil) (by kernel_rfl) (by kernel_rfl) ?_
      iterate 15
        apply wpL_none rfl rfl
        · intro w' hw' hn'; have d1 := Ext.cell hw' e3; have d2 := Ext.cell hw' e4; have q1 := HW1.out; have q2 := HW2.out; go_simp; exact rfl
        intro K hK; go_simp; refine hK _ _ ?_; clear hK K
      apply wpL_some rfl rfl
      · intro w' hw' hn'
        go_simp
        refine ⟨Ext.rfl' _, ?_⟩
        refine (word_any _ _ _ _ hy.1 hy.2 hp'.1 hp'.2 hq'.1 hq'.2).mono ?_
        rintro e w2 ⟨rfl, rfl⟩
        exact ⟨_, rfl, Ext.rfl' _, rfl⟩
      intro v w' hw' hD' hv
      obtain rfl : v = _ := hv
      clear hw' hD' w'
      intro K hK; go_simp; refine hK _ _ ?_; clear hK K
      iterate 1
        apply wpL_none rfl rfl
        · intro w' hw' hn'; go_simp; exact rfl
        intro K hK; go_simp; refine hK _ _ ?_; clear hK K
      refine wpL_nil ?_
      intro w3 hw3 _
      go_wp2_with fail
      go_roundw
      case rel => exact ⟨k + 1, _, _, by omega, by go_num, rfl, rfl, X1.out, Y1.out, MX.out, MY.out, (hxw.tr hw2).tr hw3⟩
      case measure => simp [intOf]; omega
    · obtain rfl : k = n := by omega
      have hl : like x y = true := by
        have := mx.out
        have h2 := my.out
        rw [Nat.sub_self] at h2
        refine like_of_mod hx.1 hx.2 hy.1 hy.2 ?_
        rw [this, h2]
        simp [sd]
      have HL := Lib.hid hl
      clear hl my hk hlt
      go_wp2_with fail
      refine (like_any _ _ _).mono ?_
      rintro e w' ⟨rfl, rfl⟩
      rw [HL.out]
      go_wp2_with fail
      go_loopw [12, 15] (fun th i wr => ∃ (j : Nat) (z : Int), j ≤ k ∧ i = .int .i64 j ∧ th = .int .u16 z ∧ (0 ≤ z ∧ z ≤ 65535) ∧ Hid (z % 65535 = (f + (sd l1 l2 k - sd l1 l2 j)) % 65535) ∧ Ext w wr) (fun _ i _ => k - (intOf i).toNat)
      case atStart => exact ⟨0, x, Nat.zero_le _, rfl, rfl, hx, by have := mx.out; simpa [sd, Hid] using this, hxw⟩
      case round =>
        obtain ⟨j, z, hj, rfl, rfl, hz, mz, hxw2⟩ := hrel
        by_cases hlt : j < k
        · rcases Hr1.out with h0 | ⟨bb1, o1, rfl, hrw1⟩
          · rw [h0] at hn1; simp at hn1; omega
          rcases Hr2.out with h0 | ⟨bb2, o2, rfl, hrw2⟩
          · rw [h0] at hn2; simp at hn2; omega
          have e1 := hxw2.cell (hrw1 j (by omega))
          have e2 := hxw2.cell (hrw2 j (by omega))
          have hp := w16_at B1.out j
          have hq := w16_at B2.out j
          have s1 : sd l1 l2 (j + 1) = sd l1 l2 j + (l1.getD j 0 - l2.getD j 0) := rfl
          have x1 := cword_bd hz.1 hz.2 hq.1 hq.2 hp.1 (b := l1.getD j 0)
          have x2 := cword_mod hz.1 hz.2 hq.1 hq.2 hp.1 (b := l1.getD j 0)
          have mz' := mod_back x2 mz.out s1
          have MZ := Lib.hid mz'
          clear hrw1 hrw2 s1 x2 mz' mz
          generalize l1.getD j 0 = p at *
          generalize l2.getD j 0 = q at *
          have X1 := Lib.hid x1
          clear x1
          have k1 : j < l1.length := by omega
          have k2 : j < l2.length := by omega
          go_wp2_with fail
          refine wp_region_grow [(9, is (.int .u16 (cword z q p)))] (lasts_is lasts_nil) (by kernel_rfl) (by kernel_rfl) ?_
          iterate 9
            apply wpL_none rfl rfl
            · intro w' hw' hn'; have d1 := Ext.cell hw' e1; have d2 := Ext.cell hw' e2; go_simp; exact rfl
            intro K hK; go_simp; refine hK _ _ ?_; clear hK K
          apply wpL_some rfl rfl
          · intro w' hw' hn'
            go_simp
            refine ⟨Ext.rfl' _, ?_⟩
            refine (word_any _ _ _ _ hz.1 hz.2 hq.1 hq.2 hp.1 hp.2).mono ?_
            rintro e w2 ⟨rfl, rfl⟩
            exact ⟨_, rfl, Ext.rfl' _, rfl⟩
          intro v w' hw' hD' hv
          obtain rfl : v = _ := hv
          clear hw' hD' w'
          intro K hK; go_simp; refine hK _ _ ?_; clear hK K
          iterate 1
            apply wpL_none rfl rfl
            · intro w' hw' hn'; go_simp; exact rfl
            intro K hK; go_simp; refine hK _ _ ?_; clear hK K
          refine wpL_nil ?_
          intro w2 hw2 _
          go_wp2_with fail
          go_roundw
          case rel => exact ⟨j + 1, _, by omega, by go_num, rfl, X1.out, MZ.out, hxw2.tr hw2⟩
          case measure => simp [intOf]; omega
        · obtain rfl : j = k := by omega
          have hl : like z f = true := by
            have h2 := mz.out
            refine like_of_mod hz.1 hz.2 hf.1 hf.2 ?_
            rw [h2]; simp
          have HL2 := Lib.hid hl
          clear hl
          have q3 := r3.ext hxw2
          go_wp2_with fail
          refine (even_any _ _ _ q3 (by omega)).mono ?_
          rintro e w1 ⟨u, rfl, hu, hx1⟩
          have hub := ev_byt B3.out
          have hul := ev_len l3
          have hup := padn_le l3.length
          have hue := (ev_ok l3).2
          have hcs := csum_app hue hub B4.out
          have s1 := csum_bd hub
          have s2 := csum_bd B4.out
          rw [fold_two s1 s2] at hcs
          have HCS := Lib.hid hcs
          have HUB := Lib.hid hub
          have ru := hu.rd
          have ru' := ru
          obtain ⟨au, cu, rfl, -⟩ := ru'
          have hln : (ev l3).length ≤ 140737488351236 := by omega
          clear hu hub hul hup hue hcs q3
          generalize ev l3 = E at *
          go_wp2_with fail
          refine (sum_any _ [E] _ (rds_one ru rfl) (fun l hl => by rw [List.mem_singleton.1 hl]; exact HUB.out) (by simp; omega)).mono ?_
          rintro e w2 ⟨rfl, hx2⟩
          rw [show csum [E].flatten = csum E from by rw [List.flatten_singleton]]
          have q4 := ((r4.ext hxw2).ext hx1).ext ((Ext.new _ _).tr hx2)
          go_wp2_with fail
          refine (sum_any _ [l4] _ (rds_one q4 rfl) (fun l hl => by rw [List.mem_singleton.1 hl]; exact B4.out) (by simp; omega)).mono ?_
          rintro e w3 ⟨rfl, hx3⟩
          rw [show csum [l4].flatten = csum l4 from by rw [List.flatten_singleton]]
          have hmask := mask16_u32 (csum E + csum l4) (by omega) (by omega)
          have q5 := q4.ext ((Ext.new _ _).tr hx3)
          have ru2 := ru.ext ((((Ext.new _ _).tr hx2).al _).tr hx3)
          go_wp2_with fail
          refine (like_any _ _ _).mono ?_
          rintro e w' ⟨rfl, rfl⟩
          rw [HL2.out]
          go_wp2_with fail
          refine (sum_any _ [E, l4] _ (rds_two ru2 q5 rfl) ?_ (by simp; omega)).mono ?_
          · intro l hl
            rcases List.mem_cons.1 hl with rfl | hl
            · exact HUB.out
            · rw [List.mem_singleton.1 hl]; exact B4.out
          rintro e w4 ⟨rfl, hx4⟩
          rw [show csum [E, l4].flatten = (csum E + csum l4) % 65536 + (csum E + csum l4) / 65536 from by rw [← HCS.out]; simp]
          go_wp2_with fail
          refine (wakes_any _).mono ?_
          rintro e w5 ⟨rfl, hx5⟩
          go_wp2
          go_ret
          have y := hxw2 |>.tr hx1 |>.al _ |>.tr hx2 |>.al _ |>.tr hx3 |>.al _ |>.tr hx4 |>.tr hx5
          exact ⟨rfl, y⟩
end Go.Proofs.Ytlobceldlegnlaa.sumChain

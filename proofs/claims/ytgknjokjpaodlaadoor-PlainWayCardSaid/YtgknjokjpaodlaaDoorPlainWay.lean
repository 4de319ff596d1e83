/-
  Proved here: the law PlainWay returns true, where plain's variable of protocols holds what it is laid with.
-/
import Derived.Test.YtgknjokjpaodlaaDoorPlainY
import Derived.Test.YtgknjokjpaodlaaDoorPlainW
import Derived.Test.YtgknjokjpaodlaaDoorPlainO
import Derived.Deep.Cut
import Derived.Deep.CutRange
namespace Go.Proofs.YtgknjokjpaodlaaDoor.plainWay
open Go.ChangeShapes Go.WideShapes Go.ChangeAt Go.RowKit Go.Cul Go.Loose
set_option linter.unusedVariables false
attribute [local go_sem] Loose.Still Loose.Upon Loose.vUpon

set_option maxHeartbeats 1000000 in
set_option maxRecDepth 100000 in
theorem walkN (w : World) (hK : Kn w) (proto : Int) (hk : known3 proto = false) (a : Option Addr) (n cap : Nat) :
    Calls Tryd.prog 4 #[.int .u8 proto, .slice a n cap] w fun e w' => e = .returned (.bool true) ∧ Ext w w' := by
  have hk1 : (proto == 1) = false := by unfold known3 at hk; simp only [Bool.or_eq_false_iff] at hk; exact hk.1.1
  have hk6 : (proto == 6) = false := by unfold known3 at hk; simp only [Bool.or_eq_false_iff] at hk; exact hk.1.2
  have hk17 : (proto == 17) = false := by unfold known3 at hk; simp only [Bool.or_eq_false_iff] at hk; exact hk.2
  have hn1 : ¬ proto = 1 := by rintro rfl; cases hk1
  have hn6 : ¬ proto = 6 := by rintro rfl; cases hk6
  have hn17 : ¬ proto = 17 := by rintro rfl; cases hk17
  go_enter Tryd.func4, Tryd.ntmps4
  go_wp2_with fail
  refine (config_any _).mono ?_
  rintro e x1 ⟨rfl, hx1⟩
  go_upto_region 2 with (refine wpList_store_big 34 (cfgC 80 5) rfl rfl (by kernel_rfl) rfl (cfg_one _ _) ?_)
  generalize hV : x1.alloc _ = V
  have kc : V.heap[x1.heap.size]? = some (.cells (cfgC 80 5) 34) := by rw [← hV]; exact heap_alloc_new x1 _
  have hw : Ext w V := by rw [← hV]; exact hx1.al _
  clear hV
  go_wp2_with (refine wpList_load_bigG 34 x1.heap.size (cfgC 80 5) 34 _ rfl (by with_reducible assumption) rfl Tryd.underlying34 rfl (by kernel_rfl) ?_)
  refine (open_none 80 5 proto 0 _ (hK.ext hw) hk).mono ?_
  rintro e x2 ⟨rfl, hx2⟩
  go_wp2_with fail
  refine (wakes_any _ (hK.ext (hw.tr hx2))).mono ?_
  rintro e x3 ⟨rfl, hx3⟩
  go_wp2
  go_ret
  exact ⟨ret_bool (by simp [hn1, hn6, hn17]), hw.tr (hx2.tr hx3)⟩

theorem way_wait {pr : Int} {i : Nat} {now d : Int} {m : Fl} {s0 s1 f0 f1 r : Bool} (h : Way pr i now m s0 s1 f0 f1 r) (hd : 0 ≤ d ∧ d ≤ 15) : Way pr (i + 1) (now + d) m s0 s1 f0 f1 r := by
  have h1 := h.last
  have h2 := h.since
  have h3 := h.now
  exact ⟨h.idle, h.wait, h.proto, h.ok, by omega, by omega, by omega, h.os, h.is, h.oe, h.ie, h.shut⟩

set_option maxHeartbeats 40000000 in
set_option maxRecDepth 100000 in
theorem walkK (w : World) (hK : Kn w) (proto : Int) (hk : known3 proto = true) (a : Option Addr) (n cap : Nat) (hnc : n ≤ cap) (hcm : cap ≤ maxLen)
    (hel : n = 0 ∨ ∃ b o, a = some ⟨b, o, none⟩ ∧ ∀ i, i < n → ∃ p ins now, SeenAt w b o i p ins now ∧ p.ok ∧ (0 ≤ p.proto ∧ p.proto ≤ 255) ∧ (0 ≤ now ∧ now ≤ 18446744073709551615)) :
    Calls Tryd.prog 4 #[.int .u8 proto, .slice a n cap] w fun e w' => e = .returned (.bool true) ∧ Ext w w' := by
  have hp0 : proto ≠ 0 := by rintro rfl; exact absurd hk (by decide)
  go_enter Tryd.func4, Tryd.ntmps4
  go_wp2_with fail
  refine (config_any _).mono ?_
  rintro e x1 ⟨rfl, hx1⟩
  go_upto_region 2 with (refine wpList_store_big 34 (cfgC 80 5) rfl rfl (by kernel_rfl) rfl (cfg_one _ _) ?_)
  generalize hV : x1.alloc _ = V
  have kc : V.heap[x1.heap.size]? = some (.cells (cfgC 80 5) 34) := by rw [← hV]; exact heap_alloc_new x1 _
  have hw : Ext w V := by rw [← hV]; exact hx1.al _
  have hwc : w.heap.size ≤ x1.heap.size := hx1.size
  clear hV hx1
  generalize x1.heap.size = gc at *
  go_wp2_with (refine wpList_load_bigG 34 gc (cfgC 80 5) 34 _ rfl (by with_reducible assumption) rfl Tryd.underlying34 rfl (by kernel_rfl) ?_)
  refine (open_any 80 5 proto 0 _ (hK.ext hw) hk (by decide)).mono ?_
  rintro e x2 ⟨b, rfl, hbV, h, hx2⟩
  have hgb : gc < b := by have := lt_of_block kc; omega
  have hwb : w.heap.size ≤ b := Nat.le_trans hw.size hbV
  have kc := hx2.block kc
  have hw := hw.tr hx2
  clear hx2 hbV
  go_wp2_with fail
  refine (state_any b _ _ h).mono ?_
  rintro e x3 ⟨rfl, hx⟩
  have h := hx.block h
  have kc := hx.block kc
  have hw := hw.tr hx
  clear hx
  go_wp2_with fail
  refine (alarm_any b (flNew 80 5 proto 0) _ h (show 0 ≤ max (80 : Int) 1 ∧ max (80 : Int) 1 ≤ 18446744073709551615 by decide)).mono ?_
  rintro e x4 ⟨rfl, hx⟩
  have h := hx.block h
  have kc := hx.block kc
  have hw := hw.tr hx
  clear hx
  go_wp2_with fail
  generalize hW : (x4.alloc _).alloc _ = W
  have hgs : gc < x4.heap.size := lt_of_block kc
  have hbs : b < x4.heap.size := lt_of_block h
  have hws : w.heap.size ≤ x4.heap.size := hw.size
  have ks : W.heap[x4.heap.size]? = some (.cells #[.bool false, .bool false] 55) := by rw [← hW]; simp only [heap_alloc_at, World.size_alloc]; repeat (first | rfl | rw [if_pos (by first | trivial | omega)] | rw [if_neg (by omega)])
  have kf : W.heap[x4.heap.size + 1]? = some (.cells #[.bool false, .bool false] 55) := by rw [← hW]; simp only [heap_alloc_at, World.size_alloc]; repeat (first | rfl | rw [if_pos (by first | trivial | omega)] | rw [if_neg (by omega)])
  have kc : W.heap[gc]? = some (.cells (cfgC 80 5) 34) := by rw [← hW]; exact ((Ext.new x4 _).al _).block kc
  have h : At W b (flNew 80 5 proto 0) := by rw [← hW]; exact ((Ext.new x4 _).al _).block h
  have hxW : Ext w W := by rw [← hW]; exact (hw.al _).al _
  clear hW hw
  generalize x4.heap.size = gs at *
  have hW0 : Way proto 0 0 (flNew 80 5 proto 0) false false false false false := by
    refine ⟨rfl, rfl, rfl, ⟨?_, ?_⟩, ⟨by show (0 : Int) ≤ 0; decide, by show (0 : Int) ≤ 0; decide⟩, ⟨by show (0 : Int) ≤ 0; decide, by show (0 : Int) ≤ 0; decide⟩, by decide, rfl, rfl, (fun h => by cases h), (fun h => by cases h), (fun h => by cases h)⟩
    · exact ⟨by show (0 : Int) ≤ 0 ∧ (0 : Int) ≤ 4294967295; decide, by show (0 : Int) ≤ 0 ∧ (0 : Int) ≤ 4294967295; decide, by show (0 : Int) ≤ 0 ∧ (0 : Int) ≤ 65535; decide⟩
    · exact ⟨by show (0 : Int) ≤ 0 ∧ (0 : Int) ≤ 4294967295; decide, by show (0 : Int) ≤ 0 ∧ (0 : Int) ≤ 4294967295; decide, by show (0 : Int) ≤ 0 ∧ (0 : Int) ≤ 65535; decide⟩
  generalize flNew 80 5 proto 0 = m0 at *
  go_loopw [8, 9, 10, 13, 14] (fun nv sv av rv iv wr => ∃ (i : Nat) (N : Int) (m : Fl) (s0 s1 f0 f1 r : Bool), i ≤ n ∧ i ≤ 60 ∧ iv = .int .i64 i ∧ nv = .int .u64 N ∧ sv = .int .i64 (stM m) ∧ av = .int .u64 (alM m) ∧ rv = .bool r ∧ Way proto i N m s0 s1 f0 f1 r ∧ At wr b m ∧
    wr.heap[gs]? = some (.cells #[.bool s0, .bool s1] 55) ∧ wr.heap[gs + 1]? = some (.cells #[.bool f0, .bool f1] 55) ∧ Mvs (fun j => j = b ∨ j = gs ∨ j = gs + 1) W wr) (fun _ _ _ _ iv _ => 60 - (intOf iv).toNat)
  case atStart => exact ⟨0, 0, m0, false, false, false, false, false, by omega, by omega, rfl, rfl, rfl, rfl, rfl, hW0, h, ks, kf, Mvs.refl _ _⟩
  case round =>
    obtain ⟨i, N, m, s0, s1, f0, f1, r, hin, hi60, rfl, rfl, rfl, rfl, rfl, hWay, h, ks, kf, hm⟩ := hrel
    have kc := hm.keep kc (by omega)
    have hxr : Ext w wr := hm.ext hxW (fun k hk => by omega)
    by_cases hlt : i < n ∧ i < 60
    · obtain ⟨hln, hl6⟩ := hlt
      rcases hel with h0 | ⟨ba, oa, rfl, hel⟩
      · omega
      obtain ⟨p, ins, x, ⟨hrg, hci, hcx⟩, hpo, hpp, hx0⟩ := hel i hln
      have hcp := hrg 4 (.int .u8 p.proto) rfl
      have hcf := hrg 12 (.int .u8 p.f) rfl
      have hrg' := range_ext hrg hxr
      have hci' := hxr.cell hci
      have hcx' := hxr.cell hcx
      clear hel
      have hi6 : (i : Int) < 60 := by omega
      have hin' : (i : Int) < (n : Int) := by omega
      have hwr : IntKind.u64.wrap (N + x % 16) = N + x % 16 := by rw [IntKind.wrap_u64]; have := hWay.now; omega
      have hd : 0 ≤ x % 16 ∧ x % 16 ≤ 15 := by omega
      go_wp2_with fail
      generalize x % 16 = d at *
      clear hcx' hwr
      refine wp_region_tail 12 [] lasts_nil (by kernel_rfl) (by kernel_rfl) (by kernel_rfl) ?_
      simp only [List.take, List.drop]
      iterate 5
        apply wpL_none rfl rfl
        · intro w' hw' hn'; go_simp; exact rfl
        intro K hK; go_simp; refine hK _ _ ?_; clear hK K
      apply wpL_none rfl rfl
      · intro w' hw' hn'
        exact still_load 46 (.tmp 74) rfl ba (oa + i * 26) rfl p.cells _ (range_ext hrg' hw') Tryd.underlying46 rfl (by kernel_rfl)
      intro K hK; go_simp; refine hK _ _ ?_; clear hK K
      iterate 4
        apply wpL_none rfl rfl
        · intro w' hw' hn'; go_simp; exact rfl
        intro K hK; go_simp; refine hK _ _ ?_; clear hK K
      iterate 1
        apply wpL_none rfl rfl
        · intro w' hw' hn'; have hci' := Ext.cell hw' hci'; go_simp; exact rfl
        intro K hK; go_simp; refine hK _ _ ?_; clear hK K
      iterate 1
        apply wpL_none rfl rfl
        · intro w' hw' hn'; go_simp; exact rfl
        intro K hK; go_simp; refine hK _ _ ?_; clear hK K
      refine wpL_nil ?_
      intro w5 hw5 hD5
      clear hD5 hrg' hci'
      have h5 := Ext.block hw5 h
      have hm5 := hm.tr (Mvs.ofExt hw5)
      have ks5 := Ext.block hw5 ks
      have kf5 := Ext.block hw5 kf
      have kc5 := Ext.block hw5 kc
      clear h hm ks kf kc hw5 hxr
      by_cases hpq : p.proto = proto
      · obtain ⟨hE, hWay', hTold⟩ := way_step hWay hp0 hl6 p hpo hpq ins d hd
        have hT := fun (w : World) (h : At w b m) => take_any b m p ins (N + d) w h hE hWay.ok hpo
        generalize takeM m p ins (N + d) = m' at *
        apply wpVL_step rfl
        intro K hK
        go_simp
        refine (hT _ h5).mono ?_
        rintro e w6 ⟨rfl, h6, hmv⟩
        have ks6 := hmv.keep ks5 (by omega)
        have kf6 := hmv.keep kf5 (by omega)
        have kc6 := hmv.keep kc5 (by omega)
        have hm6 := hm5.tr (hmv.mono (fun k _ hk => .inl hk))
        refine ⟨_, rfl, hK _ _ ?_⟩
        clear hK K hT hmv h5 ks5 kf5 hm5 kc5
        iterate 1
          apply wpVL_step rfl
          intro K hK
          go_simp
          refine hK _ _ ?_
          clear hK K
        refine wpVL_nil ?_
        go_wp2_with fail
        refine (state_any b m' _ h6).mono ?_
        rintro e w7 ⟨rfl, hx⟩
        have h7 := hx.block h6
        have ks7 := hx.block ks6
        have kf7 := hx.block kf6
        have kc7 := hx.block kc6
        have hm7 := hm6.tr (Mvs.ofExt hx)
        clear hx h6 ks6 kf6 hm6 kc6
        go_wp2_with fail
        refine (alarm_any b m' _ h7 (by rw [hWay'.idle]; decide)).mono ?_
        rintro e w8 ⟨rfl, hx⟩
        have h8 := hx.block h7
        have ks8 := hx.block ks7
        have kf8 := hx.block kf7
        have kc8 := hx.block kc7
        have hm8 := hm7.tr (Mvs.ofExt hx)
        clear hx h7 ks7 kf7 hm7 kc7
        have hx8 : Ext w w8 := hm8.ext hxW (fun k hk => by omega)
        have hcp8 := hx8.cell hcp
        rw [hpq] at hcp8
        have hcf8 := hx8.cell hcf
        have hci8 := hx8.cell hci
        have hR := Lib.hid (fun (w : World) (h : At w b m') => ready_any b m' w h)
        obtain ⟨t1, t2, t3, t4, t5, t6, t7, t8⟩ := hTold
        generalize hsv : stM m = sv at *
        generalize hsv' : stM m' = sv' at *
        generalize hav : alM m = av at *
        generalize hav' : alM m' = av' at *
        have HSV := Lib.hid hsv
        have HSV' := Lib.hid hsv'
        have HAV := Lib.hid hav
        have HAV' := Lib.hid hav'
        clear hsv hsv' hav hav'
        have fzs := fz_blk ks8
        have ss0 := cell_blk ks8 0
        have ss1 := cell_blk ks8 1
        simp at ss0 ss1
        have hag := and4 p.f hpo.1
        have hah := and1 p.f hpo.1
        have hwn : IntKind.u64.wrap (N + d + 5) = N + d + 5 := by rw [IntKind.wrap_u64]; have := hWay.now; omega
        have HWN := Lib.hid hwn
        have HWAY := Lib.hid hWay'
        clear hWay hWay' hwn
        cases ins
        · simp only [Bool.not_false, Bool.true_and, Bool.false_and, Bool.or_true, Bool.or_false] at HWAY t3 t4
          go_upto_region 22 with (fail)
          have hm9 : Mvs (fun j => j = b ∨ j = gs ∨ j = gs + 1) W (w8.setCell ⟨gs, 0, none⟩ (.bool true)) := hm8.tr (Mvs.set (S := fun j => j = b ∨ j = gs ∨ j = gs + 1) w8 ⟨gs, 0, none⟩ (.bool true) (.inr (.inl rfl)))
          have ks9 := set_blk ks8 0 (.bool true)
          simp at ks9
          have kf9 := set_oth kf8 (show _ ≠ gs by omega) 0 (.bool true)
          have kc9 := set_oth kc8 (show _ ≠ gs by omega) 0 (.bool true)
          have h9 := set_oth h8 (show _ ≠ gs by omega) 0 (.bool true)
          clear hm8 ks8 kf8 kc8 h8 hx8 hcp8 hcf8 hci8 fzs ss0 ss1
          generalize w8.setCell ⟨gs, 0, none⟩ (.bool true) = w9 at *
          have T3 := Lib.hid t3
          have T4 := Lib.hid t4
          have T5 := Lib.hid t5
          have T6 := Lib.hid t6
          have T7 := Lib.hid t7
          have T8 := Lib.hid t8
          clear t3 t4 t5 t6 t7 t8
          go_cut [13] from 122 to 127 (fun v wc => v = .bool (r || fl p.f 4) ∧ wc = w9)
          case first =>
            as_aux_lemma =>
              cases r <;> cases hf4 : fl p.f 4 <;> simp only [hf4, if_true, if_false, Bool.false_eq_true] at hag
              all_goals
                go_wp2_with fail
                go_meet
                case rel => exact ⟨by simp [hf4], rfl⟩
          obtain ⟨rfl, rfl⟩ := hcut
          obtain ⟨w9, rfl⟩ : ∃ w9 : World, w9 = wc := ⟨_, rfl⟩
          generalize (r || fl p.f 4) = rr at *
          go_upto_region 23 with (fail)
          have fzf := fz_blk kf9
          have ff0 := cell_blk kf9 0
          have ff1 := cell_blk kf9 1
          simp at ff0 ff1
          go_cut [13] from 128 to 142 (fun v w' => v = .bool rr ∧ w' = w9.setCell ⟨gs + 1, 0, none⟩ (.bool (f0 || (fl p.f 1 && !fl p.f 4))))
          case first =>
            as_aux_lemma =>
              cases f0 <;> cases hf4 : fl p.f 4 <;> cases hf1 : fl p.f 1 <;> simp only [hf4, hf1, if_true, if_false, Bool.false_eq_true] at hag hah
              all_goals
                go_wp2_with fail
                go_meet
                case rel => simp [hf4, hf1]
          obtain ⟨rfl, rfl⟩ := hcut
          have hm10 : Mvs (fun j => j = b ∨ j = gs ∨ j = gs + 1) W (w9.setCell ⟨gs + 1, 0, none⟩ (.bool (f0 || (fl p.f 1 && !fl p.f 4)))) := hm9.tr (Mvs.set (S := fun j => j = b ∨ j = gs ∨ j = gs + 1) w9 ⟨gs + 1, 0, none⟩ _ (.inr (.inr rfl)))
          have kf10 := set_blk kf9 0 (.bool (f0 || (fl p.f 1 && !fl p.f 4)))
          simp at kf10
          have ks10 := set_oth ks9 (show _ ≠ gs + 1 by omega) 0 (.bool (f0 || (fl p.f 1 && !fl p.f 4)))
          have kc10 := set_oth kc9 (show _ ≠ gs + 1 by omega) 0 (.bool (f0 || (fl p.f 1 && !fl p.f 4)))
          have h10 := set_oth h9 (show _ ≠ gs + 1 by omega) 0 (.bool (f0 || (fl p.f 1 && !fl p.f 4)))
          clear ff0 ff1 fzf hm9 ks9 kf9 kc9 h9 hag hah
          generalize w9.setCell ⟨gs + 1, 0, none⟩ (.bool (f0 || (fl p.f 1 && !fl p.f 4))) = w10 at *
          generalize (f0 || (fl p.f 1 && !fl p.f 4)) = F at *
          go_upto_region 24 with (fail)
          go_cut [177] from 143 to 177 (fun v w' => v = .bool false ∧ Ext w10 w')
          case first =>
            as_aux_lemma =>
              have t3 := T3.out
              have hsv' : ∀ w : World, At w b m' → Calls Tryd.prog 14 #[fp b] w fun e w' => e = .returned (.bool (decide (3 ≤ sv'))) ∧ Ext w w' := by
                have := HSV'.out
                subst this
                exact hR.out
              have hH := Lib.hid hsv'
              clear hsv'
              have ss0 := cell_blk ks10 0
              have ss1 := cell_blk ks10 1
              simp at ss0 ss1
              have hc1 : ¬ sv' < sv := by omega
              have hc1' : decide (sv' < sv) = false := decide_eq_false hc1
              rcases (by omega : sv' = 1 ∨ sv' = 2 ∨ sv' = 3 ∨ sv' = 4 ∨ sv' = 5) with rfl | rfl | rfl | rfl | rfl
              · clear t3
                clear t1 t2
                go_wp2_with fail
                refine (hH.out _ h10).mono ?_
                rw [show decide ((3 : Int) ≤ 1) = false from rfl]
                rintro e w11 ⟨rfl, hx⟩
                go_wp2_with fail
                go_meet
                case rel => exact ⟨rfl, hx⟩
              · clear t3
                clear t1 t2
                go_wp2_with fail
                refine (hH.out _ h10).mono ?_
                rw [show decide ((3 : Int) ≤ 2) = false from rfl]
                rintro e w11 ⟨rfl, hx⟩
                go_wp2_with fail
                go_meet
                case rel => exact ⟨rfl, hx⟩
              · obtain ⟨-, rfl⟩ := t3 (by decide) (by decide)
                clear t1 t2
                go_wp2_with fail
                refine (hH.out _ h10).mono ?_
                rw [show decide ((3 : Int) ≤ 3) = true from rfl]
                rintro e w11 ⟨rfl, hx⟩
                go_wp2_with fail
                go_meet
                case rel => exact ⟨rfl, hx⟩
              · obtain ⟨-, rfl⟩ := t3 (by decide) (by decide)
                clear t1 t2
                go_wp2_with fail
                refine (hH.out _ h10).mono ?_
                rw [show decide ((3 : Int) ≤ 4) = true from rfl]
                rintro e w11 ⟨rfl, hx⟩
                go_wp2_with fail
                go_meet
                case rel => exact ⟨rfl, hx⟩
              · clear t3
                clear t1 t2
                go_wp2_with fail
                refine (hH.out _ h10).mono ?_
                rw [show decide ((3 : Int) ≤ 5) = true from rfl]
                rintro e w11 ⟨rfl, hx⟩
                go_wp2_with fail
                go_meet
                case rel => exact ⟨rfl, hx⟩
          obtain ⟨rfl, hx⟩ := hcut
          have ks11 := hx.block ks10
          have kf11 := hx.block kf10
          have kc11 := hx.block kc10
          have h11 := hx.block h10
          have hm11 := hm10.tr (Mvs.ofExt hx)
          clear hx hR hm10 ks10 kf10 kc10 h10 hcf hci hcp
          obtain ⟨w11, rfl⟩ : ∃ w11 : World, w11 = wc := ⟨_, rfl⟩
          go_upto_region 26 with (fail)
          go_cut [208] from 178 to 208 (fun v w' => v = .bool false ∧ w' = w11)
          case first =>
            as_aux_lemma =>
              have t3 := T3.out
              have t4 := T4.out
              have t5 := T5.out
              have ff0 := cell_blk kf11 0
              have ff1 := cell_blk kf11 1
              simp at ff0 ff1
              clear HWAY T3 T4 T5 T6 T7 T8 ks11 kc11 h11 hm11
              rcases (by omega : sv' = 5 ∨ sv' ≠ 5) with q5 | q5
              · subst q5
                obtain ⟨h6, hor⟩ := t4 rfl
                subst h6
                clear t1 t2 t3 t4 t5
                cases rr
                · simp only [Bool.false_eq_true, false_or] at hor
                  obtain ⟨rfl, rfl⟩ := hor
                  go_wp2_with fail
                  go_meet
                  case rel => exact ⟨rfl, rfl⟩
                · clear hor
                  go_wp2_with fail
                  go_meet
                  case rel => exact ⟨rfl, rfl⟩
              · have q5' : (sv' == 5) = false := by simp [q5]
                by_cases hp6 : proto = 6
                · subst hp6
                  clear t1 t2 t3 t4 t5
                  go_wp2_with fail
                  go_meet
                  case rel => exact ⟨rfl, rfl⟩
                · have hp6' : (proto == 6) = false := by simp [hp6]
                  have q5a := t5 hp6
                  clear t1 t2 t3 t4 t5 q5
                  rcases q5a with rfl | rfl
                  all_goals
                    go_wp2_with fail
                    go_meet
                    case rel => exact ⟨rfl, rfl⟩
          obtain ⟨rfl, rfl⟩ := hcut
          obtain ⟨w11, rfl⟩ : ∃ w11 : World, w11 = wc := ⟨_, rfl⟩
          have hk18 := cell_blk kc11 18
          simp [cfgC] at hk18
          clear T3 T4 T5
          rcases (by omega : sv = 5 ∨ (sv ≠ 5 ∧ sv' = 5) ∨ (sv ≠ 5 ∧ sv' ≠ 5)) with q | ⟨q, q'⟩ | ⟨q, q'⟩
          · subst q
            obtain rfl := T6.out rfl
            clear t1 t2 T6 T7 T8
            go_wp2_with fail
            go_roundw
            case rel => exact ⟨i + 1, N + d, m', true, s1, F, f1, _, by omega, by omega, by go_num, rfl, by rw [HSV'.out], by rw [HAV'.out], rfl, HWAY.out, h11, ks11, kf11, hm11⟩
            case measure => simp [intOf]; omega
          · subst q'
            have q1 : (sv == 5) = false := by simp [q]
            have hwn := HWN.out
            obtain rfl := T7.out q rfl
            clear t1 t2 T6 T7 T8 q
            go_wp2_with fail
            go_roundw
            case rel => exact ⟨i + 1, N + d, m', true, s1, F, f1, _, by omega, by omega, by go_num, rfl, by rw [HSV'.out], by rw [HAV'.out], rfl, HWAY.out, h11, ks11, kf11, hm11⟩
            case measure => simp [intOf]; omega
          · have q1 : (sv == 5) = false := by simp [q]
            have q2 : (sv' == 5) = false := by simp [q']
            obtain ⟨q3, q4⟩ := T8.out q q'
            have q5 : ¬ av' < av := by omega
            have q6 : ¬ av' ≤ N + d := by omega
            clear t1 t2 T6 T7 T8 q q' q3 q4
            go_wp2_with fail
            go_roundw
            case rel => exact ⟨i + 1, N + d, m', true, s1, F, f1, _, by omega, by omega, by go_num, rfl, by rw [HSV'.out], by rw [HAV'.out], rfl, HWAY.out, h11, ks11, kf11, hm11⟩
            case measure => simp [intOf]; omega
        · simp only [Bool.not_true, Bool.true_and, Bool.false_and, Bool.or_true, Bool.or_false] at HWAY t3 t4
          go_upto_region 22 with (fail)
          have hm9 : Mvs (fun j => j = b ∨ j = gs ∨ j = gs + 1) W (w8.setCell ⟨gs, 1, none⟩ (.bool true)) := hm8.tr (Mvs.set (S := fun j => j = b ∨ j = gs ∨ j = gs + 1) w8 ⟨gs, 1, none⟩ (.bool true) (.inr (.inl rfl)))
          have ks9 := set_blk ks8 1 (.bool true)
          simp at ks9
          have kf9 := set_oth kf8 (show _ ≠ gs by omega) 1 (.bool true)
          have kc9 := set_oth kc8 (show _ ≠ gs by omega) 1 (.bool true)
          have h9 := set_oth h8 (show _ ≠ gs by omega) 1 (.bool true)
          clear hm8 ks8 kf8 kc8 h8 hx8 hcp8 hcf8 hci8 fzs ss0 ss1
          generalize w8.setCell ⟨gs, 1, none⟩ (.bool true) = w9 at *
          have T3 := Lib.hid t3
          have T4 := Lib.hid t4
          have T5 := Lib.hid t5
          have T6 := Lib.hid t6
          have T7 := Lib.hid t7
          have T8 := Lib.hid t8
          clear t3 t4 t5 t6 t7 t8
          go_cut [13] from 122 to 127 (fun v wc => v = .bool (r || fl p.f 4) ∧ wc = w9)
          case first =>
            as_aux_lemma =>
              cases r <;> cases hf4 : fl p.f 4 <;> simp only [hf4, if_true, if_false, Bool.false_eq_true] at hag
              all_goals
                go_wp2_with fail
                go_meet
                case rel => exact ⟨by simp [hf4], rfl⟩
          obtain ⟨rfl, rfl⟩ := hcut
          obtain ⟨w9, rfl⟩ : ∃ w9 : World, w9 = wc := ⟨_, rfl⟩
          generalize (r || fl p.f 4) = rr at *
          go_upto_region 23 with (fail)
          have fzf := fz_blk kf9
          have ff0 := cell_blk kf9 0
          have ff1 := cell_blk kf9 1
          simp at ff0 ff1
          go_cut [13] from 128 to 142 (fun v w' => v = .bool rr ∧ w' = w9.setCell ⟨gs + 1, 1, none⟩ (.bool (f1 || (fl p.f 1 && !fl p.f 4))))
          case first =>
            as_aux_lemma =>
              cases f1 <;> cases hf4 : fl p.f 4 <;> cases hf1 : fl p.f 1 <;> simp only [hf4, hf1, if_true, if_false, Bool.false_eq_true] at hag hah
              all_goals
                go_wp2_with fail
                go_meet
                case rel => simp [hf4, hf1]
          obtain ⟨rfl, rfl⟩ := hcut
          have hm10 : Mvs (fun j => j = b ∨ j = gs ∨ j = gs + 1) W (w9.setCell ⟨gs + 1, 1, none⟩ (.bool (f1 || (fl p.f 1 && !fl p.f 4)))) := hm9.tr (Mvs.set (S := fun j => j = b ∨ j = gs ∨ j = gs + 1) w9 ⟨gs + 1, 1, none⟩ _ (.inr (.inr rfl)))
          have kf10 := set_blk kf9 1 (.bool (f1 || (fl p.f 1 && !fl p.f 4)))
          simp at kf10
          have ks10 := set_oth ks9 (show _ ≠ gs + 1 by omega) 1 (.bool (f1 || (fl p.f 1 && !fl p.f 4)))
          have kc10 := set_oth kc9 (show _ ≠ gs + 1 by omega) 1 (.bool (f1 || (fl p.f 1 && !fl p.f 4)))
          have h10 := set_oth h9 (show _ ≠ gs + 1 by omega) 1 (.bool (f1 || (fl p.f 1 && !fl p.f 4)))
          clear ff0 ff1 fzf hm9 ks9 kf9 kc9 h9 hag hah
          generalize w9.setCell ⟨gs + 1, 1, none⟩ (.bool (f1 || (fl p.f 1 && !fl p.f 4))) = w10 at *
          generalize (f1 || (fl p.f 1 && !fl p.f 4)) = F at *
          go_upto_region 24 with (fail)
          go_cut [177] from 143 to 177 (fun v w' => v = .bool false ∧ Ext w10 w')
          case first =>
            as_aux_lemma =>
              have t3 := T3.out
              have hsv' : ∀ w : World, At w b m' → Calls Tryd.prog 14 #[fp b] w fun e w' => e = .returned (.bool (decide (3 ≤ sv'))) ∧ Ext w w' := by
                have := HSV'.out
                subst this
                exact hR.out
              have hH := Lib.hid hsv'
              clear hsv'
              have ss0 := cell_blk ks10 0
              have ss1 := cell_blk ks10 1
              simp at ss0 ss1
              have hc1 : ¬ sv' < sv := by omega
              have hc1' : decide (sv' < sv) = false := decide_eq_false hc1
              rcases (by omega : sv' = 1 ∨ sv' = 2 ∨ sv' = 3 ∨ sv' = 4 ∨ sv' = 5) with rfl | rfl | rfl | rfl | rfl
              · clear t3
                clear t1 t2
                go_wp2_with fail
                refine (hH.out _ h10).mono ?_
                rw [show decide ((3 : Int) ≤ 1) = false from rfl]
                rintro e w11 ⟨rfl, hx⟩
                go_wp2_with fail
                go_meet
                case rel => exact ⟨rfl, hx⟩
              · clear t3
                clear t1 t2
                go_wp2_with fail
                refine (hH.out _ h10).mono ?_
                rw [show decide ((3 : Int) ≤ 2) = false from rfl]
                rintro e w11 ⟨rfl, hx⟩
                go_wp2_with fail
                go_meet
                case rel => exact ⟨rfl, hx⟩
              · obtain ⟨rfl, -⟩ := t3 (by decide) (by decide)
                clear t1 t2
                go_wp2_with fail
                refine (hH.out _ h10).mono ?_
                rw [show decide ((3 : Int) ≤ 3) = true from rfl]
                rintro e w11 ⟨rfl, hx⟩
                go_wp2_with fail
                go_meet
                case rel => exact ⟨rfl, hx⟩
              · obtain ⟨rfl, -⟩ := t3 (by decide) (by decide)
                clear t1 t2
                go_wp2_with fail
                refine (hH.out _ h10).mono ?_
                rw [show decide ((3 : Int) ≤ 4) = true from rfl]
                rintro e w11 ⟨rfl, hx⟩
                go_wp2_with fail
                go_meet
                case rel => exact ⟨rfl, hx⟩
              · clear t3
                clear t1 t2
                go_wp2_with fail
                refine (hH.out _ h10).mono ?_
                rw [show decide ((3 : Int) ≤ 5) = true from rfl]
                rintro e w11 ⟨rfl, hx⟩
                go_wp2_with fail
                go_meet
                case rel => exact ⟨rfl, hx⟩
          obtain ⟨rfl, hx⟩ := hcut
          have ks11 := hx.block ks10
          have kf11 := hx.block kf10
          have kc11 := hx.block kc10
          have h11 := hx.block h10
          have hm11 := hm10.tr (Mvs.ofExt hx)
          clear hx hR hm10 ks10 kf10 kc10 h10 hcf hci hcp
          obtain ⟨w11, rfl⟩ : ∃ w11 : World, w11 = wc := ⟨_, rfl⟩
          go_upto_region 26 with (fail)
          go_cut [208] from 178 to 208 (fun v w' => v = .bool false ∧ w' = w11)
          case first =>
            as_aux_lemma =>
              have t3 := T3.out
              have t4 := T4.out
              have t5 := T5.out
              have ff0 := cell_blk kf11 0
              have ff1 := cell_blk kf11 1
              simp at ff0 ff1
              clear HWAY T3 T4 T5 T6 T7 T8 ks11 kc11 h11 hm11
              rcases (by omega : sv' = 5 ∨ sv' ≠ 5) with q5 | q5
              · subst q5
                obtain ⟨h6, hor⟩ := t4 rfl
                subst h6
                clear t1 t2 t3 t4 t5
                cases rr
                · simp only [Bool.false_eq_true, false_or] at hor
                  obtain ⟨rfl, rfl⟩ := hor
                  go_wp2_with fail
                  go_meet
                  case rel => exact ⟨rfl, rfl⟩
                · clear hor
                  go_wp2_with fail
                  go_meet
                  case rel => exact ⟨rfl, rfl⟩
              · have q5' : (sv' == 5) = false := by simp [q5]
                by_cases hp6 : proto = 6
                · subst hp6
                  clear t1 t2 t3 t4 t5
                  go_wp2_with fail
                  go_meet
                  case rel => exact ⟨rfl, rfl⟩
                · have hp6' : (proto == 6) = false := by simp [hp6]
                  have q5a := t5 hp6
                  clear t1 t2 t3 t4 t5 q5
                  rcases q5a with rfl | rfl
                  all_goals
                    go_wp2_with fail
                    go_meet
                    case rel => exact ⟨rfl, rfl⟩
          obtain ⟨rfl, rfl⟩ := hcut
          obtain ⟨w11, rfl⟩ : ∃ w11 : World, w11 = wc := ⟨_, rfl⟩
          have hk18 := cell_blk kc11 18
          simp [cfgC] at hk18
          clear T3 T4 T5
          rcases (by omega : sv = 5 ∨ (sv ≠ 5 ∧ sv' = 5) ∨ (sv ≠ 5 ∧ sv' ≠ 5)) with q | ⟨q, q'⟩ | ⟨q, q'⟩
          · subst q
            obtain rfl := T6.out rfl
            clear t1 t2 T6 T7 T8
            go_wp2_with fail
            go_roundw
            case rel => exact ⟨i + 1, N + d, m', s0, true, f0, F, _, by omega, by omega, by go_num, rfl, by rw [HSV'.out], by rw [HAV'.out], rfl, HWAY.out, h11, ks11, kf11, hm11⟩
            case measure => simp [intOf]; omega
          · subst q'
            have q1 : (sv == 5) = false := by simp [q]
            have hwn := HWN.out
            obtain rfl := T7.out q rfl
            clear t1 t2 T6 T7 T8 q
            go_wp2_with fail
            go_roundw
            case rel => exact ⟨i + 1, N + d, m', s0, true, f0, F, _, by omega, by omega, by go_num, rfl, by rw [HSV'.out], by rw [HAV'.out], rfl, HWAY.out, h11, ks11, kf11, hm11⟩
            case measure => simp [intOf]; omega
          · have q1 : (sv == 5) = false := by simp [q]
            have q2 : (sv' == 5) = false := by simp [q']
            obtain ⟨q3, q4⟩ := T8.out q q'
            have q5 : ¬ av' < av := by omega
            have q6 : ¬ av' ≤ N + d := by omega
            clear t1 t2 T6 T7 T8 q q' q3 q4
            go_wp2_with fail
            go_roundw
            case rel => exact ⟨i + 1, N + d, m', s0, true, f0, F, _, by omega, by omega, by go_num, rfl, by rw [HSV'.out], by rw [HAV'.out], rfl, HWAY.out, h11, ks11, kf11, hm11⟩
            case measure => simp [intOf]; omega
      · as_aux_lemma =>
          have hE : takeE m p = 1 := by unfold takeE; rw [hWay.proto, if_neg hp0, if_neg hpq]
          have hT := fun (w : World) (h : At w b m) => take_err b m p ins (N + d) w h (by rw [hE]; decide)
          simp only [hE] at hT
          apply wpVL_step rfl
          intro K hK
          go_simp
          refine (hT _ h5).mono ?_
          rintro e w6 ⟨rfl, hx⟩
          have h6 := hx.block h5
          have ks6 := hx.block ks5
          have kf6 := hx.block kf5
          have hm6 := hm5.tr (Mvs.ofExt hx)
          refine ⟨_, rfl, hK _ _ ?_⟩
          clear hK K hT hx h5 ks5 kf5 hm5 kc5
          iterate 1
            apply wpVL_step rfl
            intro K hK
            go_simp
            refine hK _ _ ?_
            clear hK K
          refine wpVL_nil ?_
          go_wp2_with fail
          refine (state_any b m _ h6).mono ?_
          rintro e w7 ⟨rfl, hx⟩
          have h7 := hx.block h6
          have ks7 := hx.block ks6
          have kf7 := hx.block kf6
          have hm7 := hm6.tr (Mvs.ofExt hx)
          clear hx h6 ks6 kf6 hm6
          go_wp2_with fail
          refine (alarm_any b m _ h7 (by rw [hWay.idle]; decide)).mono ?_
          rintro e w8 ⟨rfl, hx⟩
          have h8 := hx.block h7
          have ks8 := hx.block ks7
          have kf8 := hx.block kf7
          have hm8 := hm7.tr (Mvs.ofExt hx)
          clear hx h7 ks7 kf7 hm7
          have hx8 : Ext w w8 := hm8.ext hxW (fun k hk => by omega)
          have hcp8 := hx8.cell hcp
          have hpq' : (p.proto == proto) = false := by simp [hpq]
          have hW8 := way_wait hWay hd
          generalize hsv : stM m = sv at *
          generalize hav : alM m = av at *
          go_wp2_with fail
          go_roundw
          case rel => exact ⟨i + 1, N + d, m, s0, s1, f0, f1, r, by omega, by omega, by go_num, rfl, by rw [hsv], by rw [hav], rfl, hW8, h8, ks8, kf8, hm8⟩
          case measure => simp [intOf]; omega
    · have hg : (i < n ∧ ¬ i < 60) ∨ ¬ i < n := by omega
      clear hWay
      rcases hg with ⟨q1, q2⟩ | q1
      all_goals
        go_wp2_with fail
        refine (wakes_any _ (hK.ext hxr)).mono ?_
        rintro e z ⟨rfl, hz⟩
        go_wp2
        go_ret
        exact ⟨rfl, hxr.tr hz⟩

theorem walk (w : World) (hK : Kn w) (proto : Int) (hpr : 0 ≤ proto ∧ proto ≤ 255) (v : Value) (hv : Reads w seenSh [v]) :
    Calls Tryd.prog 4 #[.int .u8 proto, v] w fun e w' => e = .returned (.bool true) ∧ Ext w w' := by
  obtain ⟨a, n, cap, rfl, h1, h2, h3⟩ := open_seen hv
  cases hk : known3 proto
  · exact walkN w hK proto hk a n cap
  · exact walkK w hK proto hk a n cap h1 h2 h3
end Go.Proofs.YtgknjokjpaodlaaDoor.plainWay

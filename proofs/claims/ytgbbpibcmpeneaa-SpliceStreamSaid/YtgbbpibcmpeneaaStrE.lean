/-
  Proved here: a part of the walk of the law SpliceStream (CUT BY tools/cutstr.py).
-/
import Derived.Test.YtgbbpibcmpeneaaStrD
import Derived.Deep.Cut
import Derived.Deep.CutRange
namespace Go.Proofs.Ytgbbpibcmpeneaa.spliceStream
set_option maxRecDepth 200000
open Go.ChangeShapes Go.WideShapes Go.ChangeAt Go.RowKit Go.Cul Go.Loose
set_option linter.unusedVariables false
attribute [local go_sem] Loose.Still Loose.Upon Loose.vUpon

set_option maxHeartbeats 20000000
set_option maxRecDepth 200000
theorem wk64 {k : Nat} (h : k < 2) : wrap64 (k : Int) = k := by unfold wrap64; omega
theorem wki64 {k : Nat} (h : k < 2) : IntKind.i64.wrap (k : Int) = k := by rw [IntKind.wrap_i64]; omega
theorem partE : partD.1 := by
  intros w l l0 l1 n cap a0 m0 c0 _ m1 _ _ HL _ W _ bS _ hbS hwbS v1 bb _ hbbS hwb hok HERR _ _ _ v2 kLg _ _ _ HBX T K V3 b9 _ hlN hlB v4 _ _ _ _ _ V5 _ k10 kS _ hx b11 k11 hlS hl10 Va Vb _ b12 _ _ hl11 v6 _ u63 u64 u65 u66 u67 u68 u69 u70 u71 u72 u73 u74 u75 u76 u77 _ _ _ _ _ M0 M1 _ _ _ b16 hl12 v8 k12 k13 k14 hB HX8 S aS cS HSL HSB HSR HSC HFC HWC HK9' HK10' HSTM h14 hX0 hnum hv16 _ _ u18 u19 u20 u21 u22 u23 u24 u25 u26 u27 u28 u29 u30 u31 _ u33 u87 u88 u89 u90 u91 u92 u93 u94 u95 u96 u97 u98 u99 u100 u101 u102 u103 u104 _ _ _ u108 u109 u110 u111 u112 u113 u114 u115 u116 u117 u118 u119 u120 u121 u122 u123 u124 u125 u126 u127 u128 u129 u130 u131 u132 u133 u134 u135 u136 u137 u138 u139 u140 u141 u142 u143 u144 u145 u146 u147 u148 u149 u150 u151 u152 u153 u154 u155 u156 u157 u158 u159 u160 u161 u162 u163 _ _ u166 u167 u168 u169 u170 u171 u172 u173 u174 u175 _ _ _ _ _ _ _ _ _ _ _ _ u188 _ _ _ _ u193 u194 u195 u196 u197 u198 u199 u200 u201 u202 u203 u204 u205 u206 u207 u208 u209 u210 u211 u212 u213 u214 u215 u216 u217 u218 u219 u220 u221 u222 u223 u224 u225 u226 u227 u228 u229 u230 u231 u232 u233 u234 u235 u236 u237 u238 u239 u240 u241 u242 u243 u244 u245 u246 u247 u248 u249 u250 u251 u252 u253 u254 u255 u256 u257 u258 _ _ _ _ _ _ _ _ _ _ _ _ _ _ _ _ _ _ _ _ _ _ _ _ _ _ _ _ _ _ _ _ _ _ _ _ _ _ _ _ _ _ _ _ _ _ _ _ _ _ _ _ _ _ _ _ _ _ _ _ _ _ _ _ _ _ _ _ _ _ _ _ _ _ _ _ _ _ _ _ _ _ _ _ _ _ _ _ _ _ _ _ _ _ _ _ u355 u356 u357 u358 u359 u360 u361 u362 u363 u364 u365 u366 u367 u368 u369 u370 u371 u372 u373 u374 u375 u376 u377 u378 u379 u380 u381 u382 u383 u384 u385 u386 u387 u388 u389 u390 u391 u392 u393 u394 u395 u396 u397 u398 u399 u400 u401 u402 u403 u404 u405 u406 u407 u408 i x go hi fi hin hi60 hln hl6 ba oa HEL _ _ sv fr0 lo0 ak0 wn od HXR q0 HRG hk10 hi6 hin' hlr HSTR HBR _ _ _ HMR HBD _ _ _ _ _ wa HXA b19 _ k19 _ u105 u106 u107 _ _ hbSn κ heq hκ2 _ κ' hκ2' hsub Hκ Hκ' hκI hκI' q1 q2 L1 fr hfl lo X1 te hft htl aq ak HN hcS q3 q4 e13 nq _ HXC eS _ F F' q eF eF' HQ HF HF' hftI htcI _ _ aD nD cD D HVR HND HD wy HXY b25 hsz _ hlcd k9 hb25 wz HXZ _ b26 hb26 k26 hyz hl25 _ u164 u165 HXW _ SQ A1 A HA HSQ HAB hx25 wd hwd wu _ hszr HXU hbw25 hl19 _ _ B1 B2 u176 u177 u178 u179 u180 u181 u182 u183 u184 u185 u186 u187 B HB wc u189 u190 u191 u192 HXV q5 _ hnb HRW HBW HK12 HK13 HK14 HMW hgob hfb hSl HDD hDl h7 hFO FL _ _ ha2 ha1 y U HFM HGO HST HUA HFL HMAY k25 h7b hwx v9 a1 c1 a2 c2 y4 HF1 HB9 HM9 N HUL hN1 hN2 hN3 HNN HK25 hbr HEF HK19 HX9 hnD3 hfn _ _ wr u6 u32 u259 u260 u261 u262 u263 u264 u265 u266 u267 u268 u269 u270 u271 u272 u273 u274 u275 u276 u277 u278 u279 u280 u281 u282 u283 u284 u285 u286 u287 u288 u289 u290 u291 u292 u293 u294 u295 u296 u297 u298 u299 u300 u301 u302 u303 u304 u305 u306 u307 u308 u309 u310 u311 u312 u313 u314 u315 u316 u317 u318 u319 u320 u321 u322 u323 u324 u325 u326 u327 u328 u329 u330 u331 u332 u333 u334 u335 u336 u337 u338 u339 u340 u341 u342 u343 u344 u345 u346 u347 u348 u349 u350 u351 u352 u353 u354 hxq hm hlt2 hend
  have HNUM := Lib.hid (And.intro hnum (And.intro hbr (And.intro hbw25 (And.intro hlr hv16))))
  have HWI := Lib.hid hfb
  have hnum' : ¬ b12 = bb ∧ ¬ b12 + 1 = bb ∧ ¬ b12 + 1 + 1 = bb := by omega
  have k12 := hxq.block (HM9.out.keep HK12.out hnum'.1)
  have k13 := hxq.block (HM9.out.keep HK13.out hnum'.2.1)
  have k14 := hxq.block (HM9.out.keep HK14.out hnum'.2.2)
  have k25 := hxq.block HK25.out
  have e12 := pair_cell (f := fun k => Value.int .i64 (go k)) k12 (!sv)
  have e13 := pair_cell (f := fun k => Value.int .i64 (hi k)) k13 sv
  rw [Hκ'.out] at e12
  rw [Hκ.out] at e13
  have hwk1 : wrap64 (κ' : Int) = κ' := wk64 hκ2'
  have hwk2 : IntKind.i64.wrap (κ' : Int) = κ' := wki64 hκ2'
  obtain ⟨G1, hG1⟩ : ∃ M : Nat, go (!sv) = M := ⟨_, rfl⟩
  obtain ⟨G2, hG2⟩ : ∃ M : Nat, hi sv = M := ⟨_, rfl⟩
  rw [hG1] at e12
  rw [hG2] at e13
  obtain ⟨M1, hM1⟩ : ∃ M : Nat, max (go (!sv)) ak = M := ⟨_, rfl⟩
  obtain ⟨M2, hM2⟩ : ∃ M : Nat, max (hi sv) te = M := ⟨_, rfl⟩
  have HM1 := Lib.hid hM1
  have HM2 := Lib.hid hM2
  have hq1 : Hid (max G1 ak = M1) := by rw [← hG1]; exact hM1
  have hq2 : Hid (max G2 te = M2) := by rw [← hG2]; exact hM2
  have HXQ := Lib.hid hxq
  have hlq : v9.heap.size ≤ wr.heap.size := hxq.size
  clear hM1 hM2 hend hxq hG1 hG2 hnb hgob hfb hSl hFO hDl HRW HBW HMAY HNN HUA HGO HFM HEF HK19 HF1 hnum hfn hnD3 hbr hbw25 hszr hlr hl19 hlcd hx25 hb25 hb26 hyz hl25 hX0 hv16 h14 hN3 hN1 hN2
  go_upto_region 51 with (fail)
  have hx1 : (if G1 < ak then (ak : Int) else (G1 : Int)) = (M1 : Int) := by have := hq1.out; split <;> omega
  have hx2 : (if G2 < te then (te : Int) else (G2 : Int)) = (M2 : Int) := by have := hq2.out; split <;> omega
  refine wp_region_lit ?_
  iterate 9
    refine wpList_plain rfl (fun K1 hK1 => ?_)
    go_simp
    refine hK1 _ _ ?_
    clear hK1 K1
  refine wpList_put_cell 3 b12 κ' _ _ (.int .i64 M1) rfl rfl k12 (by kernel_rfl) (by show κ' < 2; exact hκ2') rfl rfl ?_
  intro W1 k12' m51
  refine wpList_nil ?_
  have e13 := cellM m51 e13 (by show b12 + 1 ≠ b12; omega)
  have k13 := m51.keep k13 (by show b12 + 1 ≠ b12; omega)
  have k14 := m51.keep k14 (by show b12 + 1 + 1 ≠ b12; omega)
  have hb25n : b25 ≠ b12 ∧ b25 ≠ b12 + 1 ∧ ¬ (b25 = b12 + 1 ∨ b25 = b12 + 1 + 1) := by have := HNUM.out; omega
  have k25 := m51.keep k25 hb25n.1
  go_upto_region 52 with (fail)
  refine wp_region_lit ?_
  iterate 7
    refine wpList_plain rfl (fun K1 hK1 => ?_)
    go_simp
    refine hK1 _ _ ?_
    clear hK1 K1
  refine wpList_put_cell 3 (b12 + 1) κ _ _ (.int .i64 M2) rfl rfl k13 (by kernel_rfl) (by show κ < 2; exact hκ2) rfl rfl ?_
  intro W2 k13' m52
  refine wpList_nil ?_
  have k12' := m52.keep k12' (by show b12 ≠ b12 + 1; omega)
  have k14 := m52.keep k14 (by show b12 + 1 + 1 ≠ b12 + 1; omega)
  have k25 := m52.keep k25 hb25n.2.1
  have hpp : ∀ (f : Bool → Nat) (k : Bool) (M : Nat), (#[.int .i64 (f false), .int .i64 (f true)] : Array Value).setIfInBounds (kN k) (.int .i64 M) = #[.int .i64 ((upd f k M false : Nat) : Int), .int .i64 ((upd f k M true : Nat) : Int)] := fun f k M => by cases k <;> rfl
  rw [← Hκ'.out, hpp] at k12'
  rw [← Hκ.out, hpp] at k13'
  have HMV2 : Hid (Mvs (fun j => j = b12 ∨ j = b12 + 1) wr W2) := Mvs.tr (Mvs.mono m51 (fun j _ hj => Or.inl hj)) (Mvs.mono m52 (fun j _ hj => Or.inr hj))
  have hbbn : ¬ (bb = b12 ∨ bb = b12 + 1) := by have := HNUM.out; omega
  have HB2 := Lib.hid (HMV2.out.keep (HXQ.out.block HB9.out) hbbn)
  have HALL : Hid (Mvs (fun j => j = bb ∨ j = b12 ∨ j = b12 + 1 ∨ j = b12 + 1 + 1) v8 W2) := ((HMW.out.tr (Mvs.mono HM9.out (fun j _ hj => Or.inl hj))).tr (Mvs.ofExt HXQ.out)).tr (Mvs.mono HMV2.out (fun j _ hj => hj.elim (fun h => Or.inr (Or.inl h)) (fun h => Or.inr (Or.inr (Or.inl h)))))
  clear k12 k13 e12 e13 hx1 hx2 m51 m52 hpp hwk1 hwk2 hbbn
  have y4 := cell_blk k25 4
  simp at y4
  simp only [Act.put]
  go_upto_region 53 with (fail)
  go_cut [377] from 374 to 377 (fun v wz => v = .bool B ∧ wz = W2)
  case first =>
    cases B
    all_goals
      simp only [Bool.false_eq_true, if_false, if_true] at ha1
      go_wp2_with fail
      go_meet
      case rel => exact ⟨rfl, rfl⟩
  obtain ⟨rfl, hwx2⟩ := hcut
  obtain rfl := hwx2.symm
  obtain ⟨hi', hhi'⟩ : ∃ f, upd hi sv (if B = true then (S sv).length + 1 else max (hi sv) te) = f := ⟨_, rfl⟩
  obtain ⟨fi', hfi'⟩ : ∃ f, upd fi sv (fi sv || B) = f := ⟨_, rfl⟩
  obtain ⟨go', hgo'⟩ : ∃ f, upd go (!sv) (max (go (!sv)) ak) = f := ⟨_, rfl⟩
  rw [hhi', hfi', hgo'] at HST
  rw [← HM1.out, hgo'] at k12'
  go_upto_if 377 with (fail)
  go_cut [] from 378 to 384 (fun wz => wz.heap[b12 + 1]? = some (.cells #[.int .i64 (hi' false), .int .i64 (hi' true)] 44) ∧ wz.heap[b12 + 1 + 1]? = some (.cells #[.bool (fi' false), .bool (fi' true)] 45) ∧ Mvs (fun j => j = b12 + 1 ∨ j = b12 + 1 + 1) W2 wz)
  case first =>
    cases B
    · have h1 : upd hi sv M2 = hi' := by rw [← hhi', ← HM2.out]; rfl
      have h2 : fi = fi' := by
        rw [← hfi', Bool.or_false]
        funext j
        unfold upd
        by_cases hj : j = sv
        · rw [if_pos hj, hj]
        · rw [if_neg hj]
      rw [h1] at k13'
      rw [h2] at k14
      clear h1 h2
      go_wp2_with fail
      go_meet
      case rel => exact ⟨k13', k14, Mvs.refl _ _⟩
    · have e16 := cellS HALL.out (HWC.out sv) (by have := HNUM.out; show ¬ (b16 = bb ∨ b16 = b12 ∨ b16 = b12 + 1 ∨ b16 = b12 + 1 + 1); omega)
      rw [Hκ.out] at e16
      obtain ⟨WH, hWH⟩ : ∃ i : Int, ((S sv).length : Int) + 1 = i := ⟨_, rfl⟩
      rw [hWH] at e16
      have hWn : WH = (((S sv).length + 1 : Nat) : Int) := by omega
      have h16 : b16 ≠ b12 + 1 + 1 := by have := HNUM.out; omega
      have HWN := Lib.hid hWn
      have HHI : Hid (upd hi sv ((S sv).length + 1) = hi') := by rw [← hhi']; rfl
      have HFI : Hid (upd fi sv true = fi') := by rw [← hfi', Bool.or_true]; exact Lib.hid rfl
      clear hWH hWn
      go_upto_region 54 with (fail)
      refine Order.wp_region_order [0, 1, 2, 3, 4] [5, 6, 7, 8] 8 (fun w' => Mvs (fun j => j = b12 + 1 + 1) W2 w') (fun _ _ => False) (fun _ _ _ _ h => h.elim) (fun _ h => Mvs.ofExt h) (by kernel_rfl) (by kernel_rfl) (by kernel_rfl) rfl (by kernel_rfl) ?_
      intro wd hwd
      have hwd : Ext W2 wd := hwd
      iterate 4
        apply Order.wpH_some rfl rfl
        · intro w' hw'; go_simp; exact rfl
        intro K1 hK1; go_simp; refine hK1 _ ?_; clear hK1 K1
      apply Order.wpH_some rfl rfl
      · intro w' hw'; have e16 := cellM hw' e16 h16; go_simp; exact rfl
      intro K hK; go_simp; refine hK _ ?_; clear hK K
      refine Order.wpH_nil ?_
      apply Order.wpI_step rfl rfl
      intro K1 hK1
      go_simp
      refine hK1 _ _ (fun _ => Mvs.ofExt hwd) ?_
      clear hK1 K1
      refine wpI_put_cell 4 rfl (b12 + 1 + 1) κ _ _ (.bool true) rfl rfl (hwd.block k14) (by kernel_rfl) (by show κ < 2; exact hκ2) rfl rfl ?_
      intro W3 k14' m3 K1 hK1
      refine hK1 _ _ (fun _ => (Mvs.ofExt hwd).tr m3) ?_
      clear hK1 K1
      apply Order.wpI_step rfl rfl
      intro K1 hK1
      go_simp
      refine hK1 _ _ (fun _ => (Mvs.ofExt hwd).tr m3) ?_
      clear hK1 K1
      refine wpI_put_cell 3 rfl (b12 + 1) κ _ _ (.int .i64 WH) rfl rfl (m3.keep (hwd.block k13') (by show b12 + 1 ≠ b12 + 1 + 1; omega)) (by kernel_rfl) (by show κ < 2; exact hκ2) rfl rfl ?_
      intro W4 k13v m4 K1 hK1
      refine hK1 _ _ (fun h => absurd rfl h) ?_
      clear hK1 K1
      refine Order.wpI_nil ?_
      have k14v := m4.keep k14' (by show b12 + 1 + 1 ≠ b12 + 1; omega)
      have hpp : ∀ (f : Bool → Nat) (k : Bool) (M : Nat), (#[.int .i64 (f false), .int .i64 (f true)] : Array Value).setIfInBounds (kN k) (.int .i64 M) = #[.int .i64 ((upd f k M false : Nat) : Int), .int .i64 ((upd f k M true : Nat) : Int)] := fun f k M => by cases k <;> rfl
      have hbb : ∀ (f : Bool → Bool) (k : Bool) (v : Bool), (#[.bool (f false), .bool (f true)] : Array Value).setIfInBounds (kN k) (.bool v) = #[.bool (upd f k v false), .bool (upd f k v true)] := fun f k v => by cases k <;> rfl
      have huu : ∀ (f : Bool → Nat) (k : Bool) (a b : Nat), upd (upd f k a) k b = upd f k b := fun f k a b => by funext j; unfold upd; split <;> rfl
      rw [HWN.out, ← Hκ.out, hpp, huu, HHI.out] at k13v
      rw [← Hκ.out, hbb, HFI.out] at k14v
      have HMC : Hid (Mvs (fun j => j = b12 + 1 ∨ j = b12 + 1 + 1) W2 W4) := (Mvs.ofExt hwd).tr (Mvs.tr (Mvs.mono m3 (fun j _ hj => Or.inr hj)) (Mvs.mono m4 (fun j _ hj => Or.inl hj)))
      clear hpp hbb huu m3 m4 k14' hwd e16
      simp only [Act.put]
      go_wp2_with fail
      go_meet
      case rel => exact ⟨k13v, k14v, HMC.out⟩
  obtain ⟨k13, k14, m54⟩ := hcut
  have k12 := m54.keep k12' (by show ¬ (b12 = b12 + 1 ∨ b12 = b12 + 1 + 1); omega)
  have HALC : Hid (Mvs (fun j => j = bb ∨ j = b12 ∨ j = b12 + 1 ∨ j = b12 + 1 + 1) v8 wc) := HALL.out.tr (Mvs.mono m54 (fun j _ hj => Or.inr (Or.inr hj)))
  have HBY := Lib.hid (m54.keep HB2.out (by have := HNUM.out; show ¬ (bb = b12 + 1 ∨ bb = b12 + 1 + 1); omega))
  have hbn : ¬ (b16 = bb ∨ b16 = b12 ∨ b16 = b12 + 1 ∨ b16 = b12 + 1 + 1) := by have := HNUM.out; omega
  have w0 : wc.cell? ⟨b16, 0, none⟩ = some (.int .i64 (((S false).length : Int) + 1)) := cellS HALC.out (HWC.out false) hbn
  have w1 : wc.cell? ⟨b16, 1, none⟩ = some (.int .i64 (((S true).length : Int) + 1)) := cellS HALC.out (HWC.out true) hbn
  obtain ⟨L0, hL0⟩ : ∃ i : Int, ((S false).length : Int) + 1 = i := ⟨_, rfl⟩
  obtain ⟨L1, hL1⟩ : ∃ i : Int, ((S true).length : Int) + 1 = i := ⟨_, rfl⟩
  rw [hL0] at w0
  rw [hL1] at w1
  have g0 : wc.cell? ⟨b12, 0, none⟩ = some (.int .i64 (go' false)) := cell_blk k12 0
  have g1 : wc.cell? ⟨b12, 1, none⟩ = some (.int .i64 (go' true)) := cell_blk k12 1
  have x0 : wc.cell? ⟨b12 + 1 + 1, 0, none⟩ = some (.bool (fi' false)) := cell_blk k14 0
  have x1 : wc.cell? ⟨b12 + 1 + 1, 1, none⟩ = some (.bool (fi' true)) := cell_blk k14 1
  obtain ⟨n0, hn0⟩ : ∃ n, go' false = n := ⟨_, rfl⟩
  obtain ⟨n1, hn1⟩ : ∃ n, go' true = n := ⟨_, rfl⟩
  obtain ⟨f0, hf0⟩ : ∃ n, fi' false = n := ⟨_, rfl⟩
  obtain ⟨f1, hf1⟩ : ∃ n, fi' true = n := ⟨_, rfl⟩
  obtain ⟨d0, hd0⟩ : ∃ b, decide (L0 ≤ (n0 : Int)) = b := ⟨_, rfl⟩
  obtain ⟨d1, hd1⟩ : ∃ b, decide (L1 ≤ (n1 : Int)) = b := ⟨_, rfl⟩
  have hst2 : y.state = if (f0 && f1 && d0 && d1) then 1 else 0 := by
    rw [stm_state HST.out, hf0, hf1, hn0, hn1, ← hd0, ← hd1]
    rw [show decide ((S false).length + 1 ≤ n0) = decide (L0 ≤ (n0 : Int)) from decide_eq_decide.2 (by omega), show decide ((S true).length + 1 ≤ n1) = decide (L1 ≤ (n1 : Int)) from decide_eq_decide.2 (by omega)]
  rw [hn0] at g0
  rw [hn1] at g1
  rw [hf0] at x0
  rw [hf1] at x1
  have HST2 := Lib.hid hst2
  have HK12 := Lib.hid k12
  have HK13 := Lib.hid k13
  have HK14 := Lib.hid k14
  clear hst2 hn0 hn1 hf0 hf1 hL0 hL1 k12 k13 k14 m54 hhi' hfi' hgo' k12' k13' hbn
  go_upto_region 56 with (fail)
  go_cut [404] from 385 to 404 (fun v wz => v = .bool (f0 && f1 && d0 && d1) ∧ wz = wc)
  case first =>
    cases f0
    · go_wp2_with fail
      go_meet
      case rel => exact ⟨rfl, rfl⟩
    cases f1
    · go_wp2_with fail
      go_meet
      case rel => exact ⟨rfl, rfl⟩
    cases d0
    · go_wp2_with fail
      go_meet
      case rel => exact ⟨rfl, rfl⟩
    go_wp2_with fail
    go_meet
    case rel => exact ⟨rfl, rfl⟩
  obtain ⟨rfl, hwx3⟩ := hcut
  obtain rfl := hwx3.symm
  generalize (f0 && f1 && d0 && d1) = Z at *
  clear hd0 hd1 w0 w1 g0 g1 x0 x1
  go_upto_if 404 with (fail)
  go_cut [33] from 405 to 405 (fun v wz => v = .int .i64 (if Z then 1 else 0) ∧ wz = wc)
  case first =>
    cases Z
    all_goals
      go_wp2_with fail
      go_meet
      case rel => exact ⟨rfl, rfl⟩
  obtain ⟨rfl, hwx4⟩ := hcut
  obtain rfl := hwx4.symm
  have hsta := Lib.hid (sstate_any bb y wc HBY.out HST.out.ok)
  rw [HST2.out] at hsta
  generalize (if Z = true then (1 : Int) else 0) = ST at *
  go_wp2_with fail
  refine hsta.out.mono ?_
  rintro e w6 ⟨rfl, hx6⟩
  go_wp2_with fail
  go_roundw
  case rel => exact ⟨i + 1, y, go', hi', fi', hln, hl6, congrArg _ (by omega), HST.out, hx6.block HBY.out, hx6.block HK12.out, hx6.block HK13.out, hx6.block HK14.out, HALC.out.tr (Mvs.ofExt hx6)⟩
  case measure => show 60 - ((i : Int) + 1).toNat < 60 - ((i : Int)).toNat; omega

theorem walk (w : World) (cs0 : Array Value) (g0 : Reads w legSh cs0.toList) (cs1 : Array Value) (g1 : Reads w (.arr 2 1 (.ints .u8 1)) cs1.toList) (v : Value) (g2 : Reads w pcSh [v]) : Calls Try.prog 3 #[.agg cs0, .agg cs1, v] w fun e w' => e = .returned (.bool true) ∧ Ext w w' :=
  partA.2 (fun _ => partB.2 (fun _ => partC.2 (fun _ => partD.2 (fun _ => partE)))) w cs0 g0 cs1 g1 v g2
end Go.Proofs.Ytgbbpibcmpeneaa.spliceStream

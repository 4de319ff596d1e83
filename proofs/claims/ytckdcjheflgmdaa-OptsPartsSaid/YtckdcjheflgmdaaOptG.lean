/-
  Proved here: what opts' Mss, Scale, SackOk, WithMss, WithScale, PermitSack compute.
-/
import Derived.Test.YtckdcjheflgmdaaOptF
import Derived.Deep.Cut
namespace Go.Proofs.Ytckdcjheflgmdaa
set_option maxRecDepth 16000
open Go.ChangeShapes Go.WideShapes Go.ChangeAt Go.RowKit Go.Cul Go.Loose
set_option linter.unusedVariables false
attribute [local go_sem] Loose.Still Loose.Upon Loose.vUpon

theorem fr_setO {w : World} {base : Nat} {e : TypeId} {k : IntKind} {v : Value} {l : List Int} (h : Fr w base e k v l) {a : Addr} (ha : a.block < base) {u : Value} : Fr (w.setCell a u) base e k v l := by
  rcases h with h | h
  · refine .inl (h.other (fun he => ?_) u)
    have := (h.block _ he).1
    omega
  · exact .inr h
theorem rd_2 {kd : IntKind} {w : World} {u : Value} {l : List Int} (h : Rd kd w u l) (hn : l.length = 2) : ∃ b o cap, u = .slice (some ⟨b, o, none⟩) 2 cap ∧ 2 ≤ cap ∧ w.cell? ⟨b, o, none⟩ = some (.int kd (l.getD 0 0)) ∧ w.cell? ⟨b, o + 1, none⟩ = some (.int kd (l.getD 1 0)) := by
  obtain ⟨b, o, cap, h1, h2, h3, h4⟩ := Rd.two (k := 0) (l := l) (kd := kd) (w := w) (u := u) (by rw [List.drop_zero, List.take_of_length_le (by omega)]; exact h) (by omega)
  exact ⟨b, o, cap, h1, h2, h3, h4⟩
theorem rd_1 {kd : IntKind} {w : World} {u : Value} {l : List Int} (h : Rd kd w u l) (hn : l.length = 1) : ∃ b o cap, u = .slice (some ⟨b, o, none⟩) 1 cap ∧ 1 ≤ cap ∧ w.cell? ⟨b, o, none⟩ = some (.int kd (l.getD 0 0)) := by
  obtain ⟨b, o, cap, h1, h2, h3⟩ := Rd.one (k := 0) (l := l) (kd := kd) (w := w) (u := u) (by rw [List.drop_zero, List.take_of_length_le (by omega)]; exact h) (by omega)
  exact ⟨b, o, cap, h1, h2, h3⟩

theorem omss_any (v : Value) (os : List Op1) (w : World) (hv : RdO w v os) (hb : BytO os) :
    Calls Try.prog 20 #[v] w fun e w' => e = .returned (.tuple #[.int .u16 (omss os), .bool (os.any (kl 2 (fun n => decide (n = 2))))]) ∧ Ext w w' := by
  have hvv := Lib.hid hv
  have HB := Lib.hid hb
  obtain ⟨a, c, rfl⟩ := hv.shape
  clear hv hb
  have hm : Hid (omss os = if os.any (kl 2 (fun n => decide (n = 2))) then (fndO (kl 2 (fun n => decide (n = 2))) os).getD 0 0 * 256 + (fndO (kl 2 (fun n => decide (n = 2))) os).getD 1 0 else 0) := rfl
  go_enter Try.func20, Try.ntmps20
  go_wp2_with fail
  refine (just_any 2 w).mono ?_
  rintro e w1 ⟨rfl, hc, hx1⟩
  have hfj := findj_any 2 2 _ os w1 _ (hvv.out.ext hx1) hc
  have hln := fun h => fndO_len (kind := 2) (want := 2) (os := os) h
  have hby := (fndO_byt (p := kl 2 (fun n => decide (n = 2))) HB.out)
  generalize hD : fndO (kl 2 (fun n => decide (n = 2))) os = D at *
  clear hD
  rcases ha : os.any (kl 2 (fun n => decide (n = 2))) with _ | _
  · have hm0 : Hid (omss os = 0) := by unfold Hid; rw [hm.out, ha]; rfl
    rw [ha] at hfj
    have HA := Lib.hid ha
    have hF := Lib.hid hfj
    clear hfj hln hby ha hm
    go_wp2_with fail
    refine hF.out.mono ?_
    rintro e w2 ⟨u, rfl, hu, hx2⟩
    obtain ⟨au, nu, cu, rfl⟩ := hu.shape
    go_wp2_with fail
    go_ret2
    exact ⟨by rw [hm0.out, HA.out]; rfl, hx1.tr hx2⟩
  · have hm : Hid (omss os = D.getD 0 0 * 256 + D.getD 1 0) := by unfold Hid; rw [hm.out, ha]; rfl
    have HA := Lib.hid ha
    rw [ha] at hfj
    have hlen := hln ha
    have hF := Lib.hid hfj
    have hD0 := hby.getD' 0
    have hD1 := hby.getD' 1
    clear hfj hln hby ha
    go_wp2_with fail
    refine hF.out.mono ?_
    rintro e w2 ⟨u, rfl, hu, hx2⟩
    obtain ⟨b, o, cap, rfl, hcap, c0, c1⟩ := rd_2 hu hlen
    clear hu
    generalize D.getD 0 0 = x at *
    generalize D.getD 1 0 = y at *
    have hor := or8_u16 x y hD0.1 hD0.2 hD1.1 hD1.2
    have e1 : IntKind.u16.wrap x = x := by simp [IntKind.wrap, IntKind.bits, IntKind.signed]; omega
    have e2 : IntKind.u16.wrap y = y := by simp [IntKind.wrap, IntKind.bits, IntKind.signed]; omega
    have e3 : IntKind.u16.wrap (x * 256) = x * 256 := by simp [IntKind.wrap, IntKind.bits, IntKind.signed]; omega
    clear hD0 hD1 hcap
    go_wp2
    go_quiet (fail)
    go_wp2
    go_ret2
    exact ⟨by rw [hm.out, HA.out]; rfl, (hx1.tr hx2).drN _⟩

theorem oscale_any (v : Value) (os : List Op1) (w : World) (hv : RdO w v os) (hb : BytO os) :
    Calls Try.prog 19 #[v] w fun e w' => e = .returned (.tuple #[.int .i64 (oscale os), .bool (os.any (kl 3 (fun n => decide (n = 1))))]) ∧ Ext w w' := by
  have hvv := Lib.hid hv
  have HB := Lib.hid hb
  obtain ⟨a, c, rfl⟩ := hv.shape
  clear hv hb
  have hm : Hid (oscale os = if os.any (kl 3 (fun n => decide (n = 1))) then (if (fndO (kl 3 (fun n => decide (n = 1))) os).getD 0 0 ≤ 14 then (fndO (kl 3 (fun n => decide (n = 1))) os).getD 0 0 else 14) else 0) := rfl
  go_enter Try.func19, Try.ntmps19
  go_wp2_with fail
  refine (just_any 1 w).mono ?_
  rintro e w1 ⟨rfl, hc, hx1⟩
  have hfj := findj_any 3 1 _ os w1 _ (hvv.out.ext hx1) hc
  have hln := fun h => fndO_len (kind := 3) (want := 1) (os := os) h
  have hby := (fndO_byt (p := kl 3 (fun n => decide (n = 1))) HB.out)
  generalize hD : fndO (kl 3 (fun n => decide (n = 1))) os = D at *
  clear hD
  rcases ha : os.any (kl 3 (fun n => decide (n = 1))) with _ | _
  · have hm0 : Hid (oscale os = 0) := by unfold Hid; rw [hm.out, ha]; rfl
    rw [ha] at hfj
    have HA := Lib.hid ha
    have hF := Lib.hid hfj
    clear hfj hln hby ha hm
    go_wp2_with fail
    refine hF.out.mono ?_
    rintro e w2 ⟨u, rfl, hu, hx2⟩
    obtain ⟨au, nu, cu, rfl⟩ := hu.shape
    go_wp2_with fail
    go_ret2
    exact ⟨by rw [hm0.out, HA.out]; rfl, hx1.tr hx2⟩
  · have hm : Hid (oscale os = (if D.getD 0 0 ≤ 14 then D.getD 0 0 else 14)) := by unfold Hid; rw [hm.out, ha]; rfl
    have HA := Lib.hid ha
    rw [ha] at hfj
    have hlen := hln ha
    have hF := Lib.hid hfj
    have hD0 := hby.getD' 0
    clear hfj hln hby ha
    go_wp2_with fail
    refine hF.out.mono ?_
    rintro e w2 ⟨u, rfl, hu, hx2⟩
    obtain ⟨b, o, cap, rfl, hcap, c0⟩ := rd_1 hu hlen
    clear hu
    generalize D.getD 0 0 = x at *
    have e1 : IntKind.i64.wrap x = x := by rw [IntWalk.i64_in _ (by omega)]
    have hmn : Hid (oscale os = if x ≤ 14 then x else 14) := hm
    clear hcap hm
    by_cases h14 : x ≤ 14
    · rw [if_pos h14] at hmn
      have hmin : (if x < 14 then x else 14) = x := by split <;> omega
      have hmin2 : (if (14 : Int) < x then 14 else x) = x := by split <;> omega
      have hmin3 : (if x ≤ 14 then x else 14) = x := by split <;> omega
      go_wp2_with fail
      go_ret2
      exact ⟨by rw [hmn.out, HA.out]; rfl, hx1.tr hx2⟩
    · rw [if_neg h14] at hmn
      have hmin : (if x < 14 then x else 14) = 14 := by split <;> omega
      have hmin2 : (if (14 : Int) < x then 14 else x) = 14 := by split <;> omega
      have hmin3 : (if x ≤ 14 then x else 14) = 14 := by split <;> omega
      go_wp2_with fail
      go_ret2
      exact ⟨by rw [hmn.out, HA.out]; rfl, hx1.tr hx2⟩

theorem osackok_any (v : Value) (os : List Op1) (w : World) (hv : RdO w v os) :
    Calls Try.prog 28 #[v] w fun e w' => e = .returned (.bool (os.any (kl 4 (fun n => decide (n = 0))))) ∧ Ext w w' := by
  have hvv := Lib.hid hv
  obtain ⟨a, c, rfl⟩ := hv.shape
  clear hv
  go_enter Try.func28, Try.ntmps28
  go_wp2_with fail
  refine (just_any 0 w).mono ?_
  rintro e w1 ⟨rfl, hc, hx1⟩
  have hF := Lib.hid (findj_any 4 0 _ os w1 _ (hvv.out.ext hx1) hc)
  clear hc
  generalize hq : os.any (kl 4 (fun n => decide (n = 0))) = q at *
  have HQ := Lib.hid hq
  clear hq
  go_wp2_with fail
  refine hF.out.mono ?_
  rintro e w2 ⟨u, rfl, hu, hx2⟩
  obtain ⟨au, nu, cu, rfl⟩ := hu.shape
  go_wp2_with fail
  go_ret
  exact ⟨by rw [HQ.out]; rfl, hx1.tr hx2⟩

theorem withmss_any (n : Int) (w : World) (hn : 0 ≤ n ∧ n ≤ 65535) :
    Calls Try.prog 34 #[.int .u16 n] w fun e w' => ∃ u, e = .returned (.agg #[.int .u8 2, u]) ∧ Fr w' w.heap.size 5 .u8 u (by2 n) ∧ Ext w w' := by
  go_enter Try.func34, Try.ntmps34
  go_wp2_with fail
  refine (wu16_any _ [] n _ (Rd.nil _ _) (by decide) hn).mono ?_
  rintro e w1 ⟨u, rfl, hu, hx1⟩
  have k0 : w1.heap[w.heap.size]? = some (.cells #[.int .u8 0, .slice none 0 0] 31) := hx1.block (heap_alloc_new _ _)
  obtain ⟨au, nu, cu, rfl⟩ := hu.rd.shape
  have hx0 : Ext w w1 := Ext.tr (Ext.new _ _) hx1
  have hu2 : Fr w1 (w.heap.size + 1) 5 .u8 (.slice au nu cu) (by2 n) := .inl (by simpa using hu)
  clear hu hx1
  have c0 := cell_blk k0 0
  have c1 := cell_blk k0 1
  simp at c0 c1
  have hz := fz_blk k0
  have k2 := set_blk (set_blk k0 0 (.int .u8 2)) 1 (.slice au nu cu)
  simp at k2
  have hfin : ∀ w'' : World, Fr w'' (w.heap.size + 1) 5 .u8 (.slice au nu cu) (by2 n) → Fr w'' w.heap.size 5 .u8 (.slice au nu cu) (by2 n) := fun _ h => h.low (by omega)
  clear k0
  go_wp2_with fail
  refine bodyPost_ret (v := .agg #[.int .u8 2, .slice au nu cu]) (by have c0 := cell_blk k2 0; have c1 := cell_blk k2 1; simp at c0 c1; simp [results, Try.results34, go_sem, c0, c1]) rfl ?_
  refine ⟨_, rfl, hfin _ (fr_setO (fr_setO hu2 (by simp)) (by simp)), ?_⟩
  · repeat (first | with_reducible exact Below.refl _ _ | with_reducible assumption | with_reducible exact Ext.drN (Ext.rfl' _) _ | with_reducible refine Below.setCell ?_ ?_ _ | with_reducible refine Ext.al ?_ _ | with_reducible refine Ext.drN ?_ _ | with_reducible refine Ext.dr ?_ | exact Nat.le_refl _ | omega | (dsimp only; omega) | (show _ ≤ _; omega) | (simp; done) | (simp; omega))
theorem withscale_any (n m : Int) (w : World) (hn : -9223372036854775808 ≤ n ∧ n ≤ 9223372036854775807) (hm : m = if n < 0 then 0 else if 14 < n then 14 else n) :
    Calls Try.prog 33 #[.int .i64 n] w fun e w' => ∃ u, e = .returned (.agg #[.int .u8 3, u]) ∧ Fr w' w.heap.size 5 .u8 u [m] ∧ Ext w w' := by
  have hm0 : 0 ≤ m ∧ m ≤ 14 := by rw [hm]; split <;> (try split) <;> omega
  have hmx : (if n < 0 then 0 else n) = if n < 0 then (0 : Int) else n := rfl
  obtain ⟨x, hx⟩ : ∃ x : Int, x = if n < 0 then 0 else n := ⟨_, rfl⟩
  have h1 : (if n < 0 then (0 : Int) else n) = x := hx.symm
  have h2 : (if n > 0 then n else (0 : Int)) = x := by rw [hx]; split <;> split <;> omega
  have h3 : (if (0 : Int) < n then n else (0 : Int)) = x := by rw [hx]; split <;> split <;> omega
  have h4 : (if x < 14 then x else (14 : Int)) = m := by rw [hx, hm]; split <;> split <;> (try split) <;> omega
  have h5 : (if (14 : Int) < x then (14 : Int) else x) = m := by rw [hx, hm]; split <;> split <;> (try split) <;> omega
  have h6 : IntKind.u8.wrap m = m := by simp [IntKind.wrap, IntKind.bits, IntKind.signed]; omega
  clear hm hx hmx
  go_enter Try.func33, Try.ntmps33
  go_wp2_with fail
  refine (wu8_any _ [] m _ (Rd.nil _ _) (by decide)).mono ?_
  rintro e w1 ⟨u, rfl, hu, hx1⟩
  have k0 : w1.heap[w.heap.size]? = some (.cells #[.int .u8 0, .slice none 0 0] 31) := hx1.block (heap_alloc_new _ _)
  obtain ⟨au, nu, cu, rfl⟩ := hu.rd.shape
  have hx0 : Ext w w1 := Ext.tr (Ext.new _ _) hx1
  have hu2 : Fr w1 (w.heap.size + 1) 5 .u8 (.slice au nu cu) [m] := .inl (by simpa using hu)
  clear hu hx1
  have c0 := cell_blk k0 0
  have c1 := cell_blk k0 1
  simp at c0 c1
  have hz := fz_blk k0
  have k2 := set_blk (set_blk k0 0 (.int .u8 3)) 1 (.slice au nu cu)
  simp at k2
  have hfin : ∀ w'' : World, Fr w'' (w.heap.size + 1) 5 .u8 (.slice au nu cu) [m] → Fr w'' w.heap.size 5 .u8 (.slice au nu cu) [m] := fun _ h => h.low (by omega)
  clear k0
  go_wp2_with fail
  refine bodyPost_ret (v := .agg #[.int .u8 3, .slice au nu cu]) (by have c0 := cell_blk k2 0; have c1 := cell_blk k2 1; simp at c0 c1; simp [results, Try.results33, go_sem, c0, c1]) rfl ?_
  refine ⟨_, rfl, hfin _ (fr_setO (fr_setO hu2 (by simp)) (by simp)), ?_⟩
  · repeat (first | with_reducible exact Below.refl _ _ | with_reducible assumption | with_reducible exact Ext.drN (Ext.rfl' _) _ | with_reducible refine Below.setCell ?_ ?_ _ | with_reducible refine Ext.al ?_ _ | with_reducible refine Ext.drN ?_ _ | with_reducible refine Ext.dr ?_ | exact Nat.le_refl _ | omega | (dsimp only; omega) | (show _ ≤ _; omega) | (simp; done) | (simp; omega))

theorem permit_any (w : World) :
    Calls Try.prog 35 #[] w fun e w' => e = .returned (.agg #[.int .u8 4, .slice none 0 0]) ∧ Ext w w' := by
  go_enter Try.func35, Try.ntmps35
  go_upto_region 1 with (fail)
  have k0 := heap_alloc_new w (.cells #[.int .u8 0, .slice none 0 0] 31)
  have hx0 := Ext.new w (.cells #[.int .u8 0, .slice none 0 0] 31)
  generalize World.alloc w _ = w1 at *
  have c0 := cell_blk k0 0
  have c1 := cell_blk k0 1
  simp at c0 c1
  have hz := fz_blk k0
  have k2 := set_blk (set_blk k0 0 (.int .u8 4)) 1 (.slice none 0 0)
  simp at k2
  clear k0
  go_wp2_with fail
  refine bodyPost_ret (v := .agg #[.int .u8 4, .slice none 0 0]) (by have c0 := cell_blk k2 0; have c1 := cell_blk k2 1; simp at c0 c1; simp [results, Try.results35, go_sem, c0, c1]) rfl ?_
  refine ⟨rfl, ?_⟩
  · repeat (first | with_reducible exact Below.refl _ _ | with_reducible assumption | with_reducible exact Ext.drN (Ext.rfl' _) _ | with_reducible refine Below.setCell ?_ ?_ _ | with_reducible refine Ext.al ?_ _ | with_reducible refine Ext.drN ?_ _ | with_reducible refine Ext.dr ?_ | exact Nat.le_refl _ | omega | (dsimp only; omega) | (show _ ≤ _; omega) | (simp; done) | (simp; omega))
end Go.Proofs.Ytckdcjheflgmdaa

/-
  Proved here: what opts' find, just, Mss, Scale, SackOk compute; options that are made: WithMss, WithScale, PermitSack.
-/
import Derived.Test.YtgbbpibcmpeneaaOptM
import Derived.Test.YtgbbpibcmpeneaaOptsS
import Derived.Test.YtgbbpibcmpeneaaLibs
import Derived.Test.YtgbbpibcmpeneaaSums
namespace Go.Proofs.Ytgbbpibcmpeneaa
set_option maxRecDepth 200000
open Go.ChangeShapes Go.WideShapes Go.ChangeAt Go.RowKit Go.Cul Go.Loose
set_option linter.unusedVariables false
attribute [local go_sem] Loose.Still Loose.Upon Loose.vUpon

/-- The first option's data that passes. -/
def fndO (p : Op1 → Bool) (os : List Op1) : List Int := match os.find? p with | some o => o.2 | none => []
theorem firstIx_neg {p : Op1 → Bool} {os : List Op1} (h : firstIx p os < 0) : fndO p os = [] ∧ os.any p = false := by
  unfold firstIx at h
  cases hf : os.findIdx? p with
  | some k => rw [hf] at h; simp at h; omega
  | none =>
    rw [List.findIdx?_eq_none_iff] at hf
    have h1 : os.find? p = none := by rw [List.find?_eq_none]; intro x hx; simp [hf x hx]
    refine ⟨by unfold fndO; rw [h1], ?_⟩
    rw [List.any_eq_false]
    intro x hx
    simp [hf x hx]
theorem firstIx_pos {p : Op1 → Bool} {os : List Op1} (h : ¬ firstIx p os < 0) : ∃ k : Nat, firstIx p os = k ∧ k < os.length ∧ fndO p os = (os.getD k (0, [])).2 ∧ p (os.getD k (0, [])) = true ∧ os.any p = true := by
  unfold firstIx at h ⊢
  cases hf : os.findIdx? p with
  | none => rw [hf] at h; simp at h
  | some k =>
    obtain ⟨hk, hp, hb⟩ := List.findIdx?_eq_some_iff_getElem.1 hf
    have hg : os.getD k (0, []) = os[k] := by simp [List.getD, hk]
    have h1 : os.find? p = some os[k] := by
      rw [List.find?_eq_some_iff_append]
      refine ⟨hp, os.take k, os.drop (k + 1), ?_, fun a ha => ?_⟩
      · rw [← List.drop_eq_getElem_cons hk, List.take_append_drop]
      · obtain ⟨j, hj, rfl⟩ := List.getElem_of_mem ha
        rw [List.length_take] at hj
        rw [List.getElem_take]
        simpa using hb j (by omega)
    refine ⟨k, rfl, hk, by unfold fndO; rw [h1, hg], by rw [hg]; exact hp, List.any_eq_true.2 ⟨_, List.getElem_mem hk, hp⟩⟩

/-- An option of a kind whose length passes. -/
def kl (kind : Int) (P : Nat → Bool) (o : Op1) : Bool := (o.1 == kind) && P o.2.length

theorem find1_any (F : FuncId) (cap : Array Value) (kind : Int) (P : Nat → Bool) (k : Int) (u : Value) (l : List Int) (B1 B2 : Nat) (w : World) (hu : Rd .u8 w u l)
    (k1 : w.cell? ⟨B1, 0, none⟩ = some (.int .u8 kind)) (k2 : w.cell? ⟨B2, 0, none⟩ = some (.func (.func F) #[] cap))
    (hF : ∀ (args : Array Value) (w : World), (callFunc F args).run Try.prog w = .ok (.enter F args) w)
    (hcl : ∀ (n : Nat) (w' : World), n ≤ maxLen → Ext w w' → Calls Try.prog F (#[.int .i64 n] ++ cap) w' fun e w'' => e = .returned (.bool (P n)) ∧ Ext w' w'') :
    Calls Try.prog 63 #[.agg #[.int .u8 k, u], .pointer (some ⟨B1, 0, none⟩), .pointer (some ⟨B2, 0, none⟩)] w fun e w' => e = .returned (.bool (kl kind P (k, l))) ∧ Ext w w' := by
  obtain ⟨a, c, rfl, h1, h2, -⟩ := hu
  have hK : Hid (kl kind P (k, l) = ((k == kind) && P l.length)) := rfl
  have HC := Lib.hid hcl
  have hlen : l.length ≤ maxLen := Nat.le_trans h1 h2
  have hlm := Lib.hid hlen
  unfold maxLen at hlen
  clear hcl
  have k1 := fun (o : Obj) => (Ext.new w o).cell k1
  have k2 := fun (o : Obj) => (Ext.new w o).cell k2
  go_enter Try.func63, Try.ntmps63
  rcases hk : (k == kind) with _ | _
  · rw [hk, Bool.false_and] at hK
    go_wp2_with fail
    go_ret
    exact ⟨by rw [hK.out]; rfl, Ext.new _ _⟩
  · rw [hk, Bool.true_and] at hK
    go_wp2_with fail
    refine (HC.out l.length _ hlm.out (Ext.new _ _)).mono ?_
    rintro e w1 ⟨rfl, hx⟩
    go_wp2_with fail
    go_ret
    exact ⟨by rw [hK.out]; rfl, Ext.tr (Ext.new _ _) hx⟩

theorem find_any (F : FuncId) (cap : Array Value) (kind : Int) (P : Nat → Bool) (v : Value) (os : List Op1) (w : World) (hv : RdO w v os)
    (hF : ∀ (args : Array Value) (w : World), (callFunc F args).run Try.prog w = .ok (.enter F args) w)
    (hcl : ∀ (n : Nat) (w' : World), n ≤ maxLen → Ext w w' → Calls Try.prog F (#[.int .i64 n] ++ cap) w' fun e w'' => e = .returned (.bool (P n)) ∧ Ext w' w'') :
    Calls Try.prog 55 #[v, .int .u8 kind, .func (.func F) #[] cap] w fun e w' => ∃ u, e = .returned (.tuple #[u, .bool (os.any (kl kind P))]) ∧ Rd .u8 w' u (fndO (kl kind P) os) ∧ Ext w w' := by
  have HC := Lib.hid hcl
  have HF := Lib.hid hF
  have hvv := Lib.hid hv
  obtain ⟨a, c, rfl, hc1, hc2, hr⟩ := id hv
  unfold maxLen at hc2
  have HR := Lib.hid hr
  clear hcl hF hr hv
  go_enter Try.func55, Try.ntmps55
  go_wp2_with fail
  generalize hW : World.alloc (World.alloc w _) _ = W
  have hxW : Ext w W := by rw [← hW]; exact (Ext.new _ _).al _
  have k1 : W.heap[w.heap.size]? = some (.cells #[.int .u8 kind] 5) := by rw [← hW]; simp only [heap_alloc_at, World.size_alloc]; repeat (first | rfl | rw [if_pos (by first | trivial | omega)] | rw [if_neg (by omega)])
  have k2 : W.heap[w.heap.size + 1]? = some (.cells #[.func (.func F) #[] cap] 80) := by rw [← hW]; simp only [heap_alloc_at, World.size_alloc]; repeat (first | rfl | rw [if_pos (by first | trivial | omega)] | rw [if_neg (by omega)])
  clear hW
  have hix := optIx_any 63 #[.pointer (some ⟨w.heap.size, 0, none⟩), .pointer (some ⟨w.heap.size + 1, 0, none⟩)] (kl kind P) _ os W (hvv.out.ext hxW) (fun _ _ => by simp [go_sem]) (fun i u w' hi hx hu => by
    have c1 := cell_blk (hx.block k1) 0
    have c2 := cell_blk (hx.block k2) 0
    exact find1_any F cap kind P _ u _ _ _ w' hu (by simpa using c1) (by simpa using c2) HF.out (fun n w2 h1 h2 => HC.out n w2 h1 (hxW.tr (hx.tr h2))))
  by_cases hneg : firstIx (kl kind P) os < 0
  · obtain ⟨q1, q2⟩ := firstIx_neg hneg
    have Q1 := Lib.hid q1
    have Q2 := Lib.hid q2
    clear q1 q2
    refine hix.mono ?_
    rintro e w1 ⟨rfl, hx1⟩
    go_wp2_with fail
    go_ret2
    rw [Q1.out, Q2.out]
    exact ⟨_, rfl, Rd.nil _ _, hxW.tr hx1⟩
  · obtain ⟨k, q0, hk, q1, -, q2⟩ := firstIx_pos hneg
    rw [q0] at hix
    have Q1 := Lib.hid q1
    have Q2 := Lib.hid q2
    clear q1 q2 hneg q0
    rcases HR.out with h0 | ⟨b, o, rfl, hrw⟩
    · rw [h0] at hk; simp at hk
    obtain ⟨u, e0, e1, hu⟩ := hrw k hk
    clear hrw
    obtain ⟨au, nu, cu, rfl⟩ := hu.shape
    refine hix.mono ?_
    rintro e w1 ⟨rfl, hx1⟩
    have e1 := (hxW.tr hx1).cell e1
    have hu1 := Lib.hid (hu.ext (hxW.tr hx1))
    have hx := hxW.tr hx1
    clear hu e0
    go_wp2_with fail
    go_ret2
    rw [Q2.out, Q1.out]
    exact ⟨_, rfl, hu1.out, hx⟩

/-- What Mss, Scale, SackOk tell. -/
def omss (os : List Op1) : Int := if os.any (kl 2 (fun n => decide (n = 2))) then (fndO (kl 2 (fun n => decide (n = 2))) os).getD 0 0 * 256 + (fndO (kl 2 (fun n => decide (n = 2))) os).getD 1 0 else 0
def oscale (os : List Op1) : Int := if os.any (kl 3 (fun n => decide (n = 1))) then (if (fndO (kl 3 (fun n => decide (n = 1))) os).getD 0 0 ≤ 14 then (fndO (kl 3 (fun n => decide (n = 1))) os).getD 0 0 else 14) else 0
theorem fndO_len {kind : Int} {want : Nat} {os : List Op1} (h : os.any (kl kind (fun n => decide (n = want))) = true) : (fndO (kl kind (fun n => decide (n = want))) os).length = want := by
  unfold fndO
  cases hf : os.find? (kl kind (fun n => decide (n = want))) with
  | none =>
    rw [List.find?_eq_none] at hf
    rw [List.any_eq_true] at h
    obtain ⟨x, hx, hp⟩ := h
    exact absurd hp (hf x hx)
  | some o =>
    have hp := List.find?_some hf
    unfold kl at hp
    simp at hp
    exact hp.2
theorem fndO_byt {p : Op1 → Bool} {os : List Op1} (h : BytO os) : Byt (fndO p os) := by
  unfold fndO
  cases hf : os.find? p with
  | none => intro x hx; cases hx
  | some o => exact (h o (List.mem_of_find?_eq_some hf)).2
end Go.Proofs.Ytgbbpibcmpeneaa

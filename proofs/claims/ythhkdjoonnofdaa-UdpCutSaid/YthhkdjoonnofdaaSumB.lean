/-
  Proved here: what Field, Right, the references Sum, Field, Join and Like compute. Conditions: the parts read as bytes, at most 2^48 in all.
-/
import Derived.Test.YthhkdjoonnofdaaSumA
namespace Go.Proofs.Ythhkdjoonnofdaa
open Go.ChangeShapes Go.WideShapes Go.ChangeAt Go.RowKit Go.Cul
set_option linter.unusedVariables false

theorem field_any (v : Value) (ls : List (List Int)) (w : World) (hv : Rds .u8 w v ls) (hb : ∀ l ∈ ls, Byt l) (hn : ls.flatten.length ≤ 281474976710656) :
    Calls Try.prog 32 #[v] w fun e w' => e = .returned (.int .u16 (65535 - csum ls.flatten)) ∧ Ext w w' := by
  have hbf : Byt ls.flatten := fun x hx => by
    obtain ⟨l, hl, hx⟩ := List.mem_flatten.1 hx
    exact hb l hl x hx
  have h1 := csum_bd hbf
  have h2 := not_u16 (csum ls.flatten) h1.1 h1.2
  have Hb := Lib.hid hb
  have Hbf := Lib.hid hbf
  clear hb hbf
  go_enter Try.func32, Try.ntmps32
  go_wp2_with fail
  refine (sum_any _ ls _ hv Hb.out hn).mono ?_
  rintro e w' ⟨rfl, hx⟩
  go_wp2
  go_ret
  exact ⟨rfl, hx⟩

/-- Sum at known bytes. -/
theorem sum_lit (n : Int) (v : Value) (ls : List (List Int)) (w : World) (hv : Rds .u8 w v ls) (hb : ls.all bytB = true) (hn : ls.flatten.length ≤ 281474976710656) (he : csum ls.flatten = n) :
    Calls Try.prog 34 #[v] w fun e w' => e = .returned (.int .u16 n) ∧ Ext w w' := by
  subst he
  exact sum_any v ls w hv (fun l hl => byt_of (List.all_eq_true.1 hb l hl)) hn
theorem field_lit (n : Int) (v : Value) (ls : List (List Int)) (w : World) (hv : Rds .u8 w v ls) (hb : ls.all bytB = true) (hn : ls.flatten.length ≤ 281474976710656) (he : 65535 - csum ls.flatten = n) :
    Calls Try.prog 32 #[v] w fun e w' => e = .returned (.int .u16 n) ∧ Ext w w' := by
  subst he
  exact field_any v ls w hv (fun l hl => byt_of (List.all_eq_true.1 hb l hl)) hn

theorem right_any (v : Value) (ls : List (List Int)) (w : World) (hv : Rds .u8 w v ls) (hb : ∀ l ∈ ls, Byt l) (hn : ls.flatten.length ≤ 281474976710656) : Calls Try.prog 18 #[v] w fun e w' => e = .returned (.bool (csum ls.flatten == 65535)) ∧ Ext w w' := by
  have Hb := Lib.hid hb
  clear hb
  go_enter Try.func18, Try.ntmps18
  go_wp2_with fail
  refine (sum_any _ ls _ hv Hb.out hn).mono ?_
  rintro e w' ⟨rfl, hx⟩
  go_wp2
  go_ret
  exact ⟨rfl, hx⟩

theorem right_lit (n : Bool) (v : Value) (ls : List (List Int)) (w : World) (hv : Rds .u8 w v ls) (hb : ls.all bytB = true) (hn : ls.flatten.length ≤ 281474976710656) (he : (csum ls.flatten == 65535) = n) : Calls Try.prog 18 #[v] w fun e w' => e = .returned (.bool n) ∧ Ext w w' := by
  subst he
  exact right_any v ls w hv (fun l hl => byt_of (List.all_eq_true.1 hb l hl)) hn

theorem rsum_any (v : Value) (l : List Int) (w : World) (hv : Rd .u8 w v l) (hb : Byt l) (hn : l.length ≤ 281474976710656) : Calls Try.prog 27 #[v] w fun e w' => e = .returned (.int .u16 (csum l)) ∧ w' = w := by
  obtain ⟨a, cap, rfl, hc1, hc2, hr⟩ := hv
  have Hb := Lib.hid hb
  have Hr := Lib.hid hr
  clear hb hr
  unfold maxLen at hc2
  go_enter Try.func27, Try.ntmps27
  go_wp2
  go_loop [3, 4] (fun s i => ∃ k : Nat, k ≤ l.length + 1 ∧ k % 2 = 0 ∧ i = .int .i64 k ∧ s = .int .u16 (csum (l.take k))) (fun _ i => l.length + 2 - (intOf i).toNat)
  case atStart => exact ⟨0, Nat.zero_le _, rfl, rfl, rfl⟩
  case round =>
    obtain ⟨k, hk, he, rfl, rfl⟩ := hrel
    have Hee := Lib.hid he
    clear he
    have hs := csum_bd (Hb.out.take k)
    by_cases hlt : k < l.length
    · rcases Hr.out with h0 | ⟨b, o, rfl, hrw⟩
      · simp [h0] at hlt
      have hc := hrw k hlt
      have hb0 := Hb.out.at k
      have hb1 := Hb.out.at (k + 1)
      have hst := csum_two Hb.out hb0.1 hb1.1 Hee.out hlt
      by_cases hlt1 : k + 1 < l.length
      · have hc1 := hrw (k + 1) hlt1
        clear hrw
        obtain ⟨c, hcc⟩ : ∃ c, c = l.getD k 0 := ⟨_, rfl⟩
        obtain ⟨d, hdd⟩ : ∃ c, c = l.getD (k + 1) 0 := ⟨_, rfl⟩
        rw [← hcc] at hc hb0 hst
        rw [← hdd] at hc1 hb1 hst
        have Hst := Lib.hid hst
        clear hst hcc hdd
        go_wp2_with fail
        refine (add_any _ _ _ hs.1 hs.2 (by omega) (by omega)).mono ?_
        rintro e w' ⟨rfl, rfl⟩
        go_wp2
        go_round
        case rel => exact ⟨k + 2, by omega, by have := Hee.out; omega, by go_num, by rw [Hst.out]⟩
        case measure => simp [intOf]; omega
      · have hd0 : l.getD (k + 1) 0 = 0 := getD_ge (by omega)
        clear hrw
        rw [hd0] at hst
        clear hb1 hd0
        obtain ⟨c, hcc⟩ : ∃ c, c = l.getD k 0 := ⟨_, rfl⟩
        rw [← hcc] at hc hb0 hst
        have Hst := Lib.hid hst
        clear hst hcc
        go_wp2_with fail
        refine (add_any _ _ _ hs.1 hs.2 (by omega) (by omega)).mono ?_
        rintro e w' ⟨rfl, rfl⟩
        go_wp2
        go_round
        case rel => exact ⟨k + 2, by omega, by have := Hee.out; omega, by go_num, by rw [Hst.out, Int.add_zero]⟩
        case measure => simp [intOf]; omega
    · have hfin : Hid (l.take k = l) := List.take_of_length_le (by omega)
      go_wp2
      go_ret
      exact ⟨ret_int (by rw [hfin.out]), rfl⟩

end Go.Proofs.Ythhkdjoonnofdaa

/-
  Proved here: what Field, Right, the references Sum, Field, Join and Like compute. Conditions: the parts read as bytes, at most 2^48 in all.
-/
import Derived.Test.YtjaffcbadgpolaaSumA
namespace Go.Proofs.Ytjaffcbadgpolaa
open Go.ChangeShapes Go.WideShapes Go.ChangeAt Go.RowKit Go.Cul
set_option linter.unusedVariables false

theorem field_any (v : Value) (ls : List (List Int)) (w : World) (hv : Rds .u8 w v ls) (hb : ∀ l ∈ ls, Byt l) (hn : ls.flatten.length ≤ 281474976710656) :
    Calls Try.prog 15 #[v] w fun e w' => e = .returned (.int .u16 (65535 - csum ls.flatten)) ∧ Ext w w' := by
  have hbf : Byt ls.flatten := fun x hx => by
    obtain ⟨l, hl, hx⟩ := List.mem_flatten.1 hx
    exact hb l hl x hx
  have h1 := csum_bd hbf
  have h2 := not_u16 (csum ls.flatten) h1.1 h1.2
  have Hb := Lib.hid hb
  have Hbf := Lib.hid hbf
  clear hb hbf
  go_enter Try.func15, Try.ntmps15
  go_wp2_with fail
  refine (sum_any _ ls _ hv Hb.out hn).mono ?_
  rintro e w' ⟨rfl, hx⟩
  go_wp2
  go_ret
  exact ⟨rfl, hx⟩

/-- Sum at known bytes. -/
theorem sum_lit (n : Int) (v : Value) (ls : List (List Int)) (w : World) (hv : Rds .u8 w v ls) (hb : ls.all bytB = true) (hn : ls.flatten.length ≤ 281474976710656) (he : csum ls.flatten = n) :
    Calls Try.prog 26 #[v] w fun e w' => e = .returned (.int .u16 n) ∧ Ext w w' := by
  subst he
  exact sum_any v ls w hv (fun l hl => byt_of (List.all_eq_true.1 hb l hl)) hn
theorem field_lit (n : Int) (v : Value) (ls : List (List Int)) (w : World) (hv : Rds .u8 w v ls) (hb : ls.all bytB = true) (hn : ls.flatten.length ≤ 281474976710656) (he : 65535 - csum ls.flatten = n) :
    Calls Try.prog 15 #[v] w fun e w' => e = .returned (.int .u16 n) ∧ Ext w w' := by
  subst he
  exact field_any v ls w hv (fun l hl => byt_of (List.all_eq_true.1 hb l hl)) hn

theorem right_any (v : Value) (ls : List (List Int)) (w : World) (hv : Rds .u8 w v ls) (hb : ∀ l ∈ ls, Byt l) (hn : ls.flatten.length ≤ 281474976710656) : Calls Try.prog 24 #[v] w fun e w' => e = .returned (.bool (csum ls.flatten == 65535)) ∧ Ext w w' := by
  have Hb := Lib.hid hb
  clear hb
  go_enter Try.func24, Try.ntmps24
  go_wp2_with fail
  refine (sum_any _ ls _ hv Hb.out hn).mono ?_
  rintro e w' ⟨rfl, hx⟩
  go_wp2
  go_ret
  exact ⟨rfl, hx⟩

theorem right_lit (n : Bool) (v : Value) (ls : List (List Int)) (w : World) (hv : Rds .u8 w v ls) (hb : ls.all bytB = true) (hn : ls.flatten.length ≤ 281474976710656) (he : (csum ls.flatten == 65535) = n) : Calls Try.prog 24 #[v] w fun e w' => e = .returned (.bool n) ∧ Ext w w' := by
  subst he
  exact right_any v ls w hv (fun l hl => byt_of (List.all_eq_true.1 hb l hl)) hn

end Go.Proofs.Ytjaffcbadgpolaa

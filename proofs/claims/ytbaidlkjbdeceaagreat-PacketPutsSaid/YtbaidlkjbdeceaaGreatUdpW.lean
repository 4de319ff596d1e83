/-
  Proved here: what udp.Put and udp.Parse tell at given numbers, and that the chapter's awake is true.
-/
import Derived.Test.YtbaidlkjbdeceaaGreatUdpP
namespace Go.Proofs.YtbaidlkjbdeceaaGreat
set_option maxRecDepth 200000
open Go.ChangeShapes Go.WideShapes Go.ChangeAt Go.RowKit Go.Cul
set_option linter.unusedVariables false

theorem put_lit (L : List Int) (n : Int) (s d sp dp : Int) (v : Value) (l : List Int) (w : World) (hv : Rd .u8 w v l) (hb : bytB l = true) (hr : (0 ≤ s ∧ s ≤ 4294967295) ∧ (0 ≤ d ∧ d ≤ 4294967295) ∧ (0 ≤ sp ∧ sp ≤ 65535) ∧ (0 ≤ dp ∧ dp ≤ 65535)) (hl : l.length ≤ 2000) (he : uput s d sp dp l = (L, n)) :
    Calls Tryz.prog 37 #[.int .u32 s, .int .u32 d, .agg #[.int .u16 sp, .int .u16 dp, v]] w fun e w' => ∃ u, e = .returned (.tuple #[u, .int .i64 n]) ∧ Own w' w.heap.size 5 .u8 u L ∧ Ext w w' := by
  have h := put_any s d sp dp v l w hv (byt_of hb) hr.1 hr.2.1 hr.2.2.1 hr.2.2.2 (by omega)
  rw [he] at h
  exact h

def PErr (w : World) (n : Int) (e : Ending) (w' : World) : Prop := ∃ sp dp u l, e = .returned (.tuple #[.agg #[.int .u16 sp, .int .u16 dp, u], .int .i64 n]) ∧ Fr w' w.heap.size 5 .u8 u l ∧ Ext w w'

theorem parse_err (n : Int) (s d : Int) (bv : Value) (l : List Int) (w : World) (hv : Rd .u8 w bv l) (hb : Byt l) (hs : 0 ≤ s ∧ s ≤ 4294967295) (hd : 0 ≤ d ∧ d ≤ 4294967295) (hl : l.length ≤ 140737488351232) (he : uerr s d l = n) :
    Calls Tryz.prog 39 #[.int .u32 s, .int .u32 d, bv] w (PErr w n) := by
  refine (parse_any s d bv l w hv hb hs hd hl).mono ?_
  rintro e w' ⟨u, h1, h2, h3⟩
  rw [he] at h1
  exact ⟨_, _, u, _, h1, h2, h3⟩

theorem beq_lit (r : Bool) (u v : Value) (a b : List Int) (w : World) (hu : Rd .u8 w u a) (hv : Rd .u8 w v b) (ha : bytB a = true) (hb : bytB b = true) (he : decide (a = b) = r) : Calls Tryz.prog 8 #[u, v] w fun e w' => e = .returned (.bool r) ∧ Ext w w' := by
  rw [← he]; exact beq_any u v a b w hu hv (byt_of ha) (byt_of hb)

end Go.Proofs.YtbaidlkjbdeceaaGreat

/-
  Proved here: what udp.Put and udp.Parse tell at given numbers, and that the chapter's awake is true.
-/
import Derived.Test.YthhkdjoonnofdaaUdpP
namespace Go.Proofs.Ythhkdjoonnofdaa
open Go.ChangeShapes Go.WideShapes Go.ChangeAt Go.RowKit Go.Cul
set_option linter.unusedVariables false

theorem put_lit (L : List Int) (n : Int) (s d sp dp : Int) (v : Value) (l : List Int) (w : World) (hv : Rd .u8 w v l) (hb : bytB l = true) (hr : (0 ≤ s ∧ s ≤ 4294967295) ∧ (0 ≤ d ∧ d ≤ 4294967295) ∧ (0 ≤ sp ∧ sp ≤ 65535) ∧ (0 ≤ dp ∧ dp ≤ 65535)) (hl : l.length ≤ 2000) (he : uput s d sp dp l = (L, n)) :
    Calls Try.prog 14 #[.int .u32 s, .int .u32 d, .agg #[.int .u16 sp, .int .u16 dp, v]] w fun e w' => ∃ u, e = .returned (.tuple #[u, .int .i64 n]) ∧ Own w' w.heap.size 5 .u8 u L ∧ Ext w w' := by
  have h := put_any s d sp dp v l w hv (byt_of hb) hr.1 hr.2.1 hr.2.2.1 hr.2.2.2 (by omega)
  rw [he] at h
  exact h

def PErr (w : World) (n : Int) (e : Ending) (w' : World) : Prop := ∃ sp dp u l, e = .returned (.tuple #[.agg #[.int .u16 sp, .int .u16 dp, u], .int .i64 n]) ∧ Fr w' w.heap.size 5 .u8 u l ∧ Ext w w'

theorem parse_err (n : Int) (s d : Int) (bv : Value) (l : List Int) (w : World) (hv : Rd .u8 w bv l) (hb : Byt l) (hs : 0 ≤ s ∧ s ≤ 4294967295) (hd : 0 ≤ d ∧ d ≤ 4294967295) (hl : l.length ≤ 140737488351232) (he : uerr s d l = n) :
    Calls Try.prog 9 #[.int .u32 s, .int .u32 d, bv] w (PErr w n) := by
  refine (parse_any s d bv l w hv hb hs hd hl).mono ?_
  rintro e w' ⟨u, h1, h2, h3⟩
  rw [he] at h1
  exact ⟨_, _, u, _, h1, h2, h3⟩

theorem beq_lit (r : Bool) (u v : Value) (a b : List Int) (w : World) (hu : Rd .u8 w u a) (hv : Rd .u8 w v b) (ha : bytB a = true) (hb : bytB b = true) (he : decide (a = b) = r) : Calls Try.prog 13 #[u, v] w fun e w' => e = .returned (.bool r) ∧ Ext w w' := by
  rw [← he]; exact beq_any u v a b w hu hv (byt_of ha) (byt_of hb)

theorem awake7_any (w : World) : Calls Try.prog 12 #[] w fun e w' => e = .returned (.bool true) ∧ Ext w w' := by
  go_enter Try.func12, Try.ntmps12
  go_wp2_with fail
  refine (put_lit [0, 1, 0, 2, 0, 8, 255, 219] 0 0 0 1 2 _ [] _ (Rd.nil _ _) rfl (by decide) (by decide) (by decide +kernel)).mono ?_
  rintro e w1 ⟨u1, rfl, hu1, hx1⟩
  go_wp2_with fail
  refine (parse_err 0 0 0 _ [0, 1, 0, 2, 0, 8, 0, 0] _ (rd_new .u8 _ _ _ _ (by simp) rfl rfl rfl (by decide)) (byt_of rfl) (by decide) (by decide) (by decide) (by decide +kernel)).mono ?_
  rintro e w2 ⟨sp2, dp2, u2, l2, rfl, hu2, hx2⟩
  obtain ⟨a2, n2, c2, rfl⟩ := hu2.rd.shape
  go_wp2_with fail
  refine (parse_err 20 0 0 _ [0, 1, 0, 2, 0, 8, 255, 220] _ (rd_new .u8 _ _ _ _ (by simp) rfl rfl rfl (by decide)) (byt_of rfl) (by decide) (by decide) (by decide) (by decide +kernel)).mono ?_
  rintro e w3 ⟨sp3, dp3, u3, l3, rfl, hu3, hx3⟩
  obtain ⟨a3, n3, c3, rfl⟩ := hu3.rd.shape
  go_wp2_with fail
  refine (parse_err 5 0 0 _ [0, 1, 0, 2, 0, 9, 0, 0] _ (rd_new .u8 _ _ _ _ (by simp) rfl rfl rfl (by decide)) (byt_of rfl) (by decide) (by decide) (by decide) (by decide +kernel)).mono ?_
  rintro e w4 ⟨sp4, dp4, u4, l4, rfl, hu4, hx4⟩
  obtain ⟨a4, n4, c4, rfl⟩ := hu4.rd.shape
  have hx14 : Ext w1 w4 := ((((((Ext.new _ _).tr hx2).al _).al _).tr hx3).al _ |>.al _).tr hx4
  have h1 := hu1.rd.ext hx14
  go_wp2_with fail
  refine (beq_lit true _ _ [0, 1, 0, 2, 0, 8, 255, 219] [0, 1, 0, 2, 0, 8, 255, 219] _ (h1.ext ((Ext.new _ _).al _)) (rd_new .u8 _ _ _ _ (by simp) rfl rfl rfl (by decide)) rfl rfl (by decide)).mono ?_
  rintro e w5 ⟨rfl, hx5⟩
  go_wp2
  go_ret
  exact ⟨rfl, hx1.tr (hx14.tr (((Ext.new _ _).al _).tr hx5))⟩
end Go.Proofs.Ythhkdjoonnofdaa

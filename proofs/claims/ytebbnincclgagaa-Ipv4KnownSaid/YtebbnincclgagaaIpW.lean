/-
  Proved here: what ipv4.Put and ipv4.Parse tell at given numbers, and that the chapter's wakes is true.
-/
import Derived.Test.YtebbnincclgagaaIp
import Derived.Test.YtebbnincclgagaaIpQ
import Derived.Lib.SlBytesConst
namespace Go.Proofs.Ytebbnincclgagaa
set_option maxRecDepth 16000
open Go.ChangeShapes Go.WideShapes Go.ChangeAt Go.RowKit Go.Cul Go.Loose
set_option linter.unusedVariables false

theorem hput_lit (L : List Int) (n : Int) (h : Hd) (vo vp : Value) (p : List Int) (w : World) (hvo : Rd .u8 w vo h.op) (hvp : Rd .u8 w vp p) (hh : h.ok) (hl : h.op.length ≤ 2000) (hp : p.length ≤ 2000) (he : hput h p = (L, n)) :
    Calls Try.prog 5 #[.agg (h.cells vo), vp] w fun e w' => ∃ u, e = .returned (.tuple #[u, .int .i64 n]) ∧ Own w' w.heap.size 5 .u8 u L ∧ Ext w w' := by
  have h1 := hput_any h vo vp p w hh hvo hvp (by omega) (by omega)
  rw [he] at h1
  exact h1

/-- What Parse tells: an error, and some head and payload. -/
def IErr (w : World) (n : Int) (e : Ending) (w' : World) : Prop := ∃ (g1 g2 : Int) (g3 : Bool) (g4 g5 g6 g7 : Int) (a : Option Addr) (m c : Nat) (b : Option Addr) (k d : Nat), e = .returned (.tuple #[.agg #[.int .u8 g1, .int .u16 g2, .bool g3, .int .u8 g4, .int .u8 g5, .int .u32 g6, .int .u32 g7, .slice a m c], .slice b k d, .int .i64 n]) ∧ Ext w w'
theorem iparse_err (n : Int) (bv : Value) (l : List Int) (w : World) (hv : Rd .u8 w bv l) (hb : Byt l) (hl : l.length ≤ 140737488351232) (he : ierr l = n) :
    Calls Try.prog 9 #[bv] w (IErr w n) := by
  refine (iparse_any bv l w hv hb hl).mono ?_
  rintro e w' ⟨vo, vp, rfl, h1, h2, h3⟩
  obtain ⟨a, m, c, rfl⟩ := h1.rd.shape
  obtain ⟨b, k, d, rfl⟩ := h2.rd.shape
  rw [show (ipar l).2.2 = n from by unfold ipar; split <;> simp_all]
  exact ⟨_, _, _, _, _, _, _, _, _, _, _, _, _, rfl, h3⟩

theorem cell_blkm {w : World} {b : Nat} {C : Array Value} {t : TypeId} {m : Nat × Nat} (h : w.heap[b]? = some (.cells C t m)) (i : Nat) : w.cell? ⟨b, i, none⟩ = C[i]? := by
  simp only [World.cell?, h]; rfl

set_option maxHeartbeats 1000000 in
set_option maxRecDepth 100000 in
theorem wakes4_any (w : World) : Calls Try.prog 7 #[] w fun e w' => e = .returned (.bool true) ∧ Ext w w' := by
  have hcv := Lib.run_convert_bytes_const (P := Try.prog) (w.alloc (.cells #[.int .u8 0, .int .u16 0, .bool false, .int .u8 64, .int .u8 17, .int .u32 167772161, .int .u32 167772162, .slice none 0 0] 26)) 24 5 #[.int .u8 104, .int .u8 105] 2 2 Try.underlying24 Try.underlying5
  simp only [World.size_alloc] at hcv
  go_enter Try.func7, Try.ntmps7
  go_wp2_with fail
  clear hcv
  generalize hW : (w.alloc _).alloc _ = W
  have hxW : Ext w W := by rw [← hW]; exact (Ext.new w _).al _
  have k1 : W.heap[w.heap.size + 1]? = some (.cells #[.int .u8 104, .int .u8 105] 5 (2, 3)) := by rw [← hW]; simp only [heap_alloc_at, World.size_alloc]; repeat (first | rfl | rw [if_pos (by first | trivial | omega)] | rw [if_neg (by omega)])
  clear hW
  have hrd : Rd .u8 W (.slice (some ⟨w.heap.size + 1, 0, none⟩) 2 2) [104, 105] := by
    refine ⟨_, _, rfl, Nat.le_refl _, by decide, .inr ⟨_, _, rfl, fun i hi => ?_⟩⟩
    rcases (by simp at hi; omega : i = 0 ∨ i = 1) with rfl | rfl <;> (rw [cell_blkm k1]; rfl)
  refine (hput_lit [69, 0, 0, 22, 0, 0, 0, 0, 64, 17, 102, 213, 10, 0, 0, 1, 10, 0, 0, 2, 104, 105] 0 ⟨0, 0, false, 64, 17, 167772161, 167772162, []⟩ _ _ [104, 105] _ (Rd.nil _ _) hrd ⟨by decide, by decide, by decide, by decide, by decide, by decide, byt_of rfl⟩ (by decide) (by decide) (by decide +kernel)).mono ?_
  rintro e w1 ⟨u, rfl, hu, hx1⟩
  have hxw1 := hxW.tr hx1
  have hxW0 := hxW.size
  clear hrd k1 hx1 hxW
  obtain ⟨g, cap, rfl, hg1, hg2, hcell, hfz, hc1, hc2, hset⟩ := hu.open (by decide)
  have hur := hu.rd
  have hcL : 22 ≤ cap := hc1
  have hgw : w.heap.size ≤ g := Nat.le_trans hxW0 hg1
  have hr1 := hur.take (m := 10) (by decide)
  have hr2 := hur.drop (m := 12) (by decide)
  have hr3 := hur.take (m := 20) (by decide)
  have hr4 := hur.take (m := 21) (by decide)
  have hq1 := run_conv_rd (P := Try.prog) (src := 24) (e := 5) (dst := 9) (by kernel_rfl) (by kernel_rfl) (by kernel_rfl) hr1
  have hq2 := run_conv_rd (P := Try.prog) (src := 24) (e := 5) (dst := 9) (by kernel_rfl) (by kernel_rfl) (by kernel_rfl) hr2
  have hS1 : strOfNums (([69, 0, 0, 22, 0, 0, 0, 0, 64, 17, 102, 213, 10, 0, 0, 1, 10, 0, 0, 2, 104, 105] : List Int).take 10) = ⟨#[69, 0, 0, 22, 0, 0, 0, 0, 64, 17]⟩ := by decide
  have hS2 : strOfNums (([69, 0, 0, 22, 0, 0, 0, 0, 64, 17, 102, 213, 10, 0, 0, 1, 10, 0, 0, 2, 104, 105] : List Int).drop 12) = ⟨#[10, 0, 0, 1, 10, 0, 0, 2, 104, 105]⟩ := by decide
  rw [hS1] at hq1
  rw [hS2] at hq2
  have hc10 : (10 : Int) ≤ cap := by omega
  have hc12 : (12 : Int) ≤ cap := by omega
  have hc20 : (20 : Int) ≤ cap := by omega
  have hc21 : (21 : Int) ≤ cap := by omega
  have hn12 : ¬ cap = 12 := by omega
  unfold maxLen at hc2
  clear hS1 hS2 hr1 hr2 hcell hfz hset
  simp only [List.length_cons, List.length_nil] at hq1 hq2 hr3 hr4 ⊢
  go_wp2_with fail
  refine (right_any _ _ _ (rds_one hr3 rfl) (fun x hx => by simp only [List.mem_cons, List.not_mem_nil, or_false] at hx; subst hx; exact byt_of rfl) (by decide)).mono ?_
  rw [show (csum [([69, 0, 0, 22, 0, 0, 0, 0, 64, 17, 102, 213, 10, 0, 0, 1, 10, 0, 0, 2, 104, 105] : List Int).take 20].flatten == 65535) = true from by decide +kernel]
  rintro e w2 ⟨rfl, hx2⟩
  have hx12 : Ext w1 w2 := (Ext.new _ _).tr hx2
  clear hx2 hq1 hq2
  go_wp2_with fail
  refine (iparse_err 4 _ _ _ (hr4.ext hx12) (byt_of rfl) (by decide) (by decide +kernel)).mono ?_
  rintro e w3 ⟨g1, g2, g3, g4, g5, g6, g7, a, m, c, b, k, d, rfl, hx3⟩
  have hx13 := hx12.tr (hx3.al (.cells #[.int .u8 g1, .int .u16 g2, .bool g3, .int .u8 g4, .int .u8 g5, .int .u32 g6, .int .u32 g7, .slice a m c] 26))
  have hu3 := hur.ext hx13
  go_wp2_with (at_builtin; first | (refine wpList_app isU8 rfl _ (.tmp 55) rfl w1.heap.size _ [] rfl (Own.nil _ _ _ _) _ _ rfl hu3 (by decide) (by decide) hx13.size ?_; intro v4 w4 hown4 hg4 hat4; have hx14 : Ext w1 w4 := nil_grow hg4 hx13; obtain ⟨a4, n4, c4, rfl⟩ := hown4.rd.shape) | (refine wpList_app isU8 rfl (.tmp 56) (.tmp 57) rfl w1.heap.size _ _ rfl (hown4.kept (Ext.new _ _)) _ [0] rfl (rd_new .u8 _ _ _ _ rfl rfl rfl rfl (by decide)) (by decide) (by decide) (hx14.al _).size ?_; intro v5 w5 hown5 hg5 hat5; have hx15 : Ext w1 w5 := (hown4.kept (Ext.new _ _)).below hg5 (hx14.al _) (hx14.al _).size; obtain ⟨a5, n5, c5, rfl⟩ := hown5.rd.shape))
  refine (iparse_err 5 _ _ _ hown5.rd (byt_of rfl) (by decide) (by decide +kernel)).mono ?_
  rintro e w6 ⟨h1, h2, h3, h4, h5, h6, h7, a', m', c', b', k', d', rfl, hx6⟩
  go_upto_region 7 with (fail)
  have hx7 := (hx15.tr hx6).al (.cells #[.int .u8 h1, .int .u16 h2, .bool h3, .int .u8 h4, .int .u8 h5, .int .u32 h6, .int .u32 h7, .slice a' m' c'] 26)
  generalize hW7 : World.alloc w6 _ = W7
  rw [show w6.alloc (.cells #[.int .u8 h1, .int .u16 h2, .bool h3, .int .u8 h4, .int .u8 h5, .int .u32 h6, .int .u32 h7, .slice a' m' c'] 26) = W7 from hW7] at hx7
  clear hW7
  obtain ⟨g', cap', he, -, -, hcell, hfz, -, -, hset⟩ := (hu.kept hx7).open (by decide)
  cases he
  have c0 := hcell 0 (by decide)
  have f0 := hfz 0
  have hs := (hset 85 0 (by decide)).rd
  have hx8 : Ext w (W7.setCell ⟨g, 0, none⟩ (.int .u8 85)) := Below.setCell (hxw1.tr hx7) hgw _
  have HS := Lib.hid hs
  have HX := Lib.hid hx8
  clear hcell hfz hset hs hx8
  go_wp2_with fail
  refine (iparse_err 5 _ _ _ HS.out (byt_of rfl) (by decide) (by decide +kernel)).mono ?_
  rintro e w9 ⟨j1, j2, j3, j4, j5, j6, j7, a', m', c', b', k', d', rfl, hx9⟩
  go_wp2_with fail
  go_ret
  exact ⟨rfl, HX.out.tr (hx9.al _)⟩
end Go.Proofs.Ytebbnincclgagaa

/-
  Proved here: what tcp.Parse computes. Conditions: numbers within their kinds, at most 2^47 - 4096 bytes.
-/
import Derived.Test.YtbaidlkjbdeceaaGreatTcpP
namespace Go.Proofs.YtbaidlkjbdeceaaGreat
set_option maxRecDepth 200000
open Go.ChangeShapes Go.WideShapes Go.ChangeAt Go.RowKit Go.Cul Go.Loose
set_option linter.unusedVariables false

/-- The segment of bytes, the error. -/
def tpar (s d : Int) (l : List Int) : Sg × Int := if terr s d l = 0 then (tseg l, 0) else (Sg.none, terr s d l)

set_option maxHeartbeats 1000000 in
theorem tparse_any (s d : Int) (bv : Value) (l : List Int) (w : World) (hv : Rd .u8 w bv l) (hb : Byt l) (hs : 0 ≤ s ∧ s ≤ 4294967295) (hd : 0 ≤ d ∧ d ≤ 4294967295) (hl : l.length ≤ 140737488351232) :
    Calls Tryz.prog 35 #[.int .u32 s, .int .u32 d, bv] w fun e w' => ∃ vo vd, e = .returned (.tuple #[.agg ((tpar s d l).1.cells vo vd), .int .i64 (tpar s d l).2]) ∧ FrO w' w.heap.size vo (tpar s d l).1.os ∧ Fr w' w.heap.size 5 .u8 vd (tpar s d l).1.data ∧ Ext w w' := by
  have hvc := hv
  obtain ⟨a, cap, rfl, -, -, -⟩ := hvc
  by_cases hlong : 1480 < l.length
  · have hU : tpar s d l = (Sg.none, 3) := by unfold tpar; rw [show terr s d l = 3 from by unfold terr; rw [if_pos hlong]]; rfl
    rw [hU]
    clear hU
    have hlong' : (1480 : Int) < (l.length : Int) := by omega
    go_enter Tryz.func35, Tryz.ntmps35
    go_wp2_with fail
    refine bodyPost_ret (v := .tuple #[.agg (Sg.none.cells (.slice none 0 0) (.slice none 0 0)), .int .i64 3]) (by simp [results, Tryz.results35, go_sem, Sg.none]) rfl ?_
    refine ⟨_, _, rfl, FrO.nil _ _, .inl (Own.nil _ _ _ _), ?_⟩
    repeat (first | with_reducible exact Below.refl _ _ | with_reducible assumption | with_reducible exact Ext.drN (Ext.rfl' _) _ | with_reducible refine Below.setCell ?_ ?_ _ | with_reducible refine Ext.al ?_ _ | with_reducible refine Ext.drN ?_ _ | with_reducible refine Ext.dr ?_ | exact Nat.le_refl _ | omega | (dsimp only; omega) | (show _ ≤ _; omega) | (simp; done) | (simp; omega))
  · have hN : l.length ≤ 1480 := by omega
    have hlong' : ¬ (1480 : Int) < (l.length : Int) := by omega
    have hU : Hid (tpar s d l = if terr s d l = 0 then (tseg l, 0) else (Sg.none, terr s d l)) := rfl
    go_enter Tryz.func35, Tryz.ntmps35
    go_wp2_with fail
    generalize hW : (World.alloc (World.alloc (World.alloc (World.alloc (World.alloc (World.alloc w _) _) _) _) _) _) = W
    have hxW : Ext w W := by
      rw [← hW]
      repeat (first | with_reducible exact Below.refl _ _ | with_reducible assumption | with_reducible exact Ext.drN (Ext.rfl' _) _ | with_reducible refine Below.setCell ?_ ?_ _ | with_reducible refine Ext.al ?_ _ | with_reducible refine Ext.drN ?_ _ | with_reducible refine Ext.dr ?_ | exact Nat.le_refl _ | omega | (dsimp only; omega) | (show _ ≤ _; omega) | (simp; done) | (simp; omega))
    have hsz : W.heap.size = w.heap.size + 6 := by rw [← hW]; simp
    have b0 : W.heap[w.heap.size]? = some (Obj.cells #[Value.int IntKind.u32 s] 23) := by rw [← hW]; simp only [heap_alloc_at, World.size_alloc]; repeat (first | rfl | rw [if_pos (by first | trivial | omega)] | rw [if_neg (by omega)])
    have b1 : W.heap[w.heap.size + 1]? = some (Obj.cells #[Value.int IntKind.u32 d] 23) := by rw [← hW]; simp only [heap_alloc_at, World.size_alloc]; repeat (first | rfl | rw [if_pos (by first | trivial | omega)] | rw [if_neg (by omega)])
    have b2 : W.heap[w.heap.size + 1 + 1]? = some (Obj.cells #[Value.slice a l.length cap] 24) := by rw [← hW]; simp only [heap_alloc_at, World.size_alloc]; repeat (first | rfl | rw [if_pos (by first | trivial | omega)] | rw [if_neg (by omega)])
    have b3 : W.heap[w.heap.size + 1 + 1 + 1]? = some (Obj.cells (Sg.none.cells (.slice none 0 0) (.slice none 0 0)) 29) := by rw [← hW]; simp only [heap_alloc_at, World.size_alloc]; repeat (first | rfl | rw [if_pos (by first | trivial | omega)] | rw [if_neg (by omega)])
    have b4 : W.heap[w.heap.size + 1 + 1 + 1 + 1]? = some (Obj.cells (Sg.none.cells (.slice none 0 0) (.slice none 0 0)) 29) := by rw [← hW]; simp only [heap_alloc_at, World.size_alloc]; repeat (first | rfl | rw [if_pos (by first | trivial | omega)] | rw [if_neg (by omega)])
    have b5 : W.heap[w.heap.size + 1 + 1 + 1 + 1 + 1]? = some (Obj.cells #[.func (.func 63) #[] #[]] 99) := by rw [← hW]; simp only [heap_alloc_at, World.size_alloc]; repeat (first | rfl | rw [if_pos (by first | trivial | omega)] | rw [if_neg (by omega)])
    clear hW
    refine (read_cl 66 _ _ l W (hv.ext hxW) hl (fun k => k = w.heap.size + 1 + 1 + 1 + 1) (by omega) (TpQ (w.heap.size + 1 + 1 + 1 + 1) s d l) (fun _ _ => by simp [go_sem]) ?_).mono ?_
    · intro B bu w1 hx1 hB hR hA
      exact tparse1_any s d l hb hN hs hd _ bu w w1 B _ _ _ _ _ hv (Ext.tr hxW hx1) hR hA (by omega) (hx1.block b4) (hx1.block b2) (hx1.block b0) (hx1.block b1) (hx1.block b5) (by omega) (by omega) (by omega) (by omega)
    rintro x w' ⟨e, w1, w2, rfl, hx1, ⟨he, hq⟩, hout, hm⟩
    have b3' := hm.keep b3 (by omega)
    have hs1 := hx1.size
    have hxw : Ext w w' := hm.ext hxW (by omega)
    by_cases he0 : e = 0
    · subst he0
      have hU' : Hid (tpar s d l = (tseg l, 0)) := by unfold Hid; rw [hU.out, if_pos he.symm]
      obtain ⟨vo, vd, hbd, hfo, hfr⟩ := hq rfl
      have b4' := (hout.block _ (lt_of_block hbd) (.inl (by omega))).trans hbd
      have hfo' := hfo.keep (Keep.ofOut hout (Nat.le_refl _))
      have hfr' := hout.fr hfr (Nat.le_refl _)
      have hs3 : (w'.heap.size : Nat) ≥ w.heap.size + 6 := by have := hm.size; omega
      clear hq he hU b0 b1 b2 b3 b5 hbd hfr hfo hv hout hm hb
      generalize tseg l = g at *
      obtain ⟨g1, g2, g3, g4, g5, g6, g7, g8, g9⟩ := g
      simp only [Sg.cells, Sg.none] at *
      obtain ⟨ao, co, rfl⟩ := hfo'.rdo.shape
      obtain ⟨au, nu, cu, rfl⟩ := hfr'.rd.shape
      have c0 := cell_blk b3' 0
      have c1 := cell_blk b3' 1
      have c2 := cell_blk b3' 2
      have c3 := cell_blk b3' 3
      have c4 := cell_blk b3' 4
      have c5 := cell_blk b3' 5
      have c6 := cell_blk b3' 6
      have c7 := cell_blk b3' 7
      have c8 := cell_blk b3' 8
      simp at c0 c1 c2 c3 c4 c5 c6 c7 c8
      have d0 := cell_blk b4' 0
      have d1 := cell_blk b4' 1
      have d2 := cell_blk b4' 2
      have d3 := cell_blk b4' 3
      have d4 := cell_blk b4' 4
      have d5 := cell_blk b4' 5
      have d6 := cell_blk b4' 6
      have d7 := cell_blk b4' 7
      have d8 := cell_blk b4' 8
      simp at d0 d1 d2 d3 d4 d5 d6 d7 d8
      have f3 := fz_blk b3'
      go_wp2_with fail
      refine bodyPost_ret (v := .tuple #[.agg #[.int .u16 g1, .int .u16 g2, .int .u32 g3, .int .u32 g4, .int .u8 g5, .int .u16 g6, .int .u16 g7, .slice ao g8.length co, .slice au nu cu], .int .i64 0]) (by simp [results, Tryz.results35, go_sem, c0, c1, c2, c3, c4, c5, c6, c7, c8]) rfl ?_
      rw [hU'.out]
      have hfin : ∀ w'' : World, Mvs (fun k => k = w.heap.size + 1 + 1 + 1) w' w'' → FrO w'' w.heap.size (.slice ao g8.length co) g8 ∧ Fr w'' w.heap.size 5 .u8 (.slice au nu cu) g9 ∧ Ext w w'' := fun w'' hmv => by
        have hkp := Keep.ofMvs hmv (base := w1.heap.size) (fun k hk => by omega)
        exact ⟨(hfo'.keep hkp).low (by omega), (Fr.keep hfr' hkp).low (by omega), hmv.ext hxw (fun k hk => by omega)⟩
      refine ⟨_, _, rfl, hfin _ ?_⟩
      repeat (first | with_reducible exact Mvs.refl _ _ | refine Mvs.tr ?_ (Mvs.set _ _ _ rfl))
    · have hU' : Hid (tpar s d l = (Sg.none, e)) := by unfold Hid; rw [hU.out, if_neg (by omega), he]
      have hb : (e != 0) = true := by simpa using he0
      clear hq he hU b0 b1 b2 b3 b4 b5 hv hout hm he0
      simp only [Sg.cells, Sg.none] at *
      have c0 := cell_blk b3' 0
      have c1 := cell_blk b3' 1
      have c2 := cell_blk b3' 2
      have c3 := cell_blk b3' 3
      have c4 := cell_blk b3' 4
      have c5 := cell_blk b3' 5
      have c6 := cell_blk b3' 6
      have c7 := cell_blk b3' 7
      have c8 := cell_blk b3' 8
      simp at c0 c1 c2 c3 c4 c5 c6 c7 c8
      have f3 := fz_blk b3'
      go_wp2_with fail
      refine bodyPost_ret (v := .tuple #[.agg (Sg.none.cells (.slice none 0 0) (.slice none 0 0)), .int .i64 e]) (by simp [results, Tryz.results35, go_sem, c0, c1, c2, c3, c4, c5, c6, c7, c8, Sg.none]) rfl ?_
      rw [hU'.out]
      refine ⟨_, _, rfl, FrO.nil _ _, .inl (Own.nil _ _ _ _), ?_⟩
      repeat (first | with_reducible exact Below.refl _ _ | with_reducible assumption | with_reducible exact Ext.drN (Ext.rfl' _) _ | with_reducible refine Below.setCell ?_ ?_ _ | with_reducible refine Ext.al ?_ _ | with_reducible refine Ext.drN ?_ _ | with_reducible refine Ext.dr ?_ | exact Nat.le_refl _ | omega | (dsimp only; omega) | (show _ ≤ _; omega) | (simp; done) | (simp; omega))
end Go.Proofs.YtbaidlkjbdeceaaGreat

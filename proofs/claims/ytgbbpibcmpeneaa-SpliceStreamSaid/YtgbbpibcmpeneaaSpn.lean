/-
  Proved here: what splice.New computes, and the law's joined. Conditions: numbers within their kinds.
-/
import Derived.Test.YtgbbpibcmpeneaaSpk
namespace Go.Proofs.Ytgbbpibcmpeneaa
set_option maxRecDepth 200000
open Go.ChangeShapes Go.WideShapes Go.ChangeAt Go.RowKit Go.Cul Go.Loose
set_option linter.unusedVariables false
attribute [local go_sem] Loose.Still Loose.Upon Loose.vUpon First.pUpon

/-- A leg's facts. -/
structure Fa where
  iss : Int
  irs : Int
  mss : Int
  sc : Int
  sack : Bool
  win : Int
structure Fa.ok (a : Fa) : Prop where
  iss : 0 ≤ a.iss ∧ a.iss ≤ 4294967295
  irs : 0 ≤ a.irs ∧ a.irs ≤ 4294967295
  mss : 0 ≤ a.mss ∧ a.mss ≤ 65535
  sc : -9223372036854775808 ≤ a.sc ∧ a.sc ≤ 9223372036854775807
  win : 0 ≤ a.win ∧ a.win ≤ 4294967295
abbrev Fa.cells (a : Fa) : Array Value := #[.int .u32 a.iss, .int .u32 a.irs, .int .u16 a.mss, .int .i64 a.sc, .bool a.sack, .int .u32 a.win]
/-- A leg's setup: what counts here. -/
structure Su where
  lo : Int
  re : Int
  iss : Int
  mss : Int
  sc : Int
  sack : Bool
  room : Int
  rto : Int
  tries : Int
structure Su.ok (a : Su) : Prop where
  lo : 0 ≤ a.lo ∧ a.lo ≤ 65535
  re : 0 ≤ a.re ∧ a.re ≤ 65535
  sc : -9223372036854775808 ≤ a.sc ∧ a.sc ≤ 9223372036854775807
abbrev Su.cells (a : Su) : Array Value := #[.int .u16 a.lo, .int .u16 a.re, .int .u32 a.iss, .int .u16 a.mss, .int .i64 a.sc, .bool a.sack, .int .i64 a.room, .int .u64 a.rto, .int .i64 a.tries]

def sclF (fr : Fa) : Fa → Int → Int := fun to told => if fr.sc = -1 then 0 else fr.sc
def sclT (to : Fa) (told : Int) : Int := if to.sc = -1 then 0 else told
/-- The shift of what an end sends: a's facts, the other one's facts, its scale. -/
def nwSh (a o : Fa) (told : Int) (sk : Bool) : Shf := ⟨(o.iss - a.irs) % 4294967296, (o.irs - a.iss) % 4294967296, sk, (if a.sc = -1 then 0 else a.sc), (if o.sc = -1 then 0 else told), o.mss⟩
def nwE (c s : Fa) (cs ss : Su) (n : Int) : Bool := decide (n < 0) || decide (16384 < n) || !(nwSh c s ss.sc (c.sack && s.sack)).may || !(nwSh s c cs.sc (c.sack && s.sack)).may
def nwSp (c s : Fa) (cs ss : Su) (n : Int) : Sp :=
  ⟨⟨cs.lo, cs.re, (c.iss + 1) % 4294967296, c.win, (c.irs + 1 + n) % 4294967296, false, 0, nwSh c s ss.sc (c.sack && s.sack)⟩,
   ⟨ss.lo, ss.re, (s.iss + 1 + n) % 4294967296, s.win, (s.irs + 1) % 4294967296, false, 0, nwSh s c cs.sc (c.sack && s.sack)⟩, false, true⟩
theorem nwSh_ok {a o : Fa} {t : Int} {sk : Bool} (ha : a.ok) (ho : o.ok) (ht : -9223372036854775808 ≤ t ∧ t ≤ 9223372036854775807) : (nwSh a o t sk).ok := by
  have h1 := ha.sc
  have h2 := ho.sc
  have h3 := ho.mss
  refine ⟨?_, ?_, ?_, ?_, ?_⟩
  · show 0 ≤ (o.iss - a.irs) % 4294967296 ∧ (o.iss - a.irs) % 4294967296 ≤ 4294967295; omega
  · show 0 ≤ (o.irs - a.iss) % 4294967296 ∧ (o.irs - a.iss) % 4294967296 ≤ 4294967295; omega
  · show _ ≤ (if a.sc = -1 then 0 else a.sc) ∧ (if a.sc = -1 then 0 else a.sc) ≤ _; split <;> omega
  · show _ ≤ (if o.sc = -1 then 0 else t) ∧ (if o.sc = -1 then 0 else t) ≤ _; split <;> omega
  · show _ ≤ o.mss ∧ o.mss ≤ _; omega
theorem nwSp_ok {c s : Fa} {cs ss : Su} {n : Int} (hc : c.ok) (hs : s.ok) (hcs : cs.ok) (hss : ss.ok) (h : nwE c s cs ss n = false) : (nwSp c s cs ss n).ok := by
  unfold nwE at h
  simp only [Bool.or_eq_false_iff, Bool.not_eq_false'] at h
  have h1 := hc.iss
  have h2 := hs.iss
  refine ⟨⟨hcs.lo, hcs.re, ?_, hc.win, ?_, by show (0 : Int) ≤ 0 ∧ (0 : Int) ≤ 4294967295; decide, nwSh_ok hc hs hss.sc, h.1.2⟩, ⟨hss.lo, hss.re, ?_, hs.win, ?_, by show (0 : Int) ≤ 0 ∧ (0 : Int) ≤ 4294967295; decide, nwSh_ok hs hc hcs.sc, h.2⟩, rfl⟩
  · show 0 ≤ (c.iss + 1) % 4294967296 ∧ (c.iss + 1) % 4294967296 ≤ 4294967295; omega
  · show 0 ≤ (c.irs + 1 + n) % 4294967296 ∧ (c.irs + 1 + n) % 4294967296 ≤ 4294967295; omega
  · show 0 ≤ (s.iss + 1 + n) % 4294967296 ∧ (s.iss + 1 + n) % 4294967296 ≤ 4294967295; omega
  · show 0 ≤ (s.irs + 1) % 4294967296 ∧ (s.irs + 1) % 4294967296 ≤ 4294967295; omega

theorem mvs_setCells {b : Nat} : ∀ (vs : List Value) (o : Nat) (w : World), Mvs (fun j => j = b) w (w.setCells b o vs)
  | [], _, w => Mvs.refl _ _
  | v :: vs, o, w => (Mvs.set (S := fun j => j = b) w ⟨b, o, none⟩ v rfl).tr (mvs_setCells vs (o + 1) _)
def putMany : Array Value → Nat → List Value → Array Value
  | c, _, [] => c
  | c, o, v :: vs => putMany (c.setIfInBounds o v) (o + 1) vs
theorem set_cells {b : Nat} {t : TypeId} : ∀ (vs : List Value) (o : Nat) (w : World) (c : Array Value), w.heap[b]? = some (.cells c t) → (w.setCells b o vs).heap[b]? = some (.cells (putMany c o vs) t)
  | [], _, _, _, h => h
  | v :: vs, o, w, c, h => set_cells vs (o + 1) _ _ (set_blk h o v)
theorem sp_put_end {w : World} {b : Nat} {x : Sp} (h : SpAt w b x) (k : Bool) (e : En) : SpAt (w.setCells b (kO k) e.cells.toList) b (x.put k e) := by
  have := set_cells e.cells.toList (kO k) w _ h
  have e1 : putMany x.cells (kO k) e.cells.toList = (x.put k e).cells := by
    cases k
    · kernel_rfl
    · kernel_rfl
  rw [e1] at this
  exact this
theorem sp_there {w : World} {b : Nat} {x : Sp} (h : SpAt w b x) (k : Bool) : w.there b (kO k) 13 := fun j hj => by
  rw [cell_blk h]
  have hk : kO k + j < 28 := by unfold kO; split <;> omega
  refine ⟨?_, fz_blk h _⟩
  rw [Array.getElem?_eq_getElem (by exact hk)]
  rfl

theorem eq_or (s v : Int) : ((s == -1) = true ∧ (if s = -1 then 0 else v) = 0) ∨ ((s == -1) = false ∧ (if s = -1 then 0 else v) = v) := by
  by_cases h : s = -1 <;> simp [h]
set_option maxRecDepth 100000 in
theorem scales_any (a o : Fa) (told : Int) (w : World) : Calls Try.prog 31 #[.agg a.cells, .agg o.cells, .int .i64 told] w fun e w' => e = .returned (.tuple #[.int .i64 (if a.sc = -1 then 0 else a.sc), .int .i64 (if o.sc = -1 then 0 else told)]) ∧ Ext w w' := by
  obtain ⟨iss, irs, mss, sc, sack, win⟩ := a
  obtain ⟨iss', irs', mss', sc', sack', win'⟩ := o
  dsimp only [Fa.cells]
  rcases eq_or sc sc with ⟨q1, hA⟩ | ⟨q1, hA⟩ <;> rcases eq_or sc' told with ⟨q2, hB⟩ | ⟨q2, hB⟩ <;> rw [hA, hB]
  all_goals
    clear hA hB
    go_enter Try.func31, Try.ntmps31
    go_wp2_with fail
    refine bodyPost_ret (v := .tuple #[.int .i64 _, .int .i64 _]) (by simp [results, Try.results31, go_sem]; exact ⟨rfl, rfl⟩) rfl ?_
    exact ⟨rfl, (Ext.new _ _).al _⟩

end Go.Proofs.Ytgbbpibcmpeneaa
namespace Go.Order
open Go Go.Loose Go.First Go.Cul
section
variable {P : Program} {ops : Array Oper} {J : World → Prop} {z : Nat} {Q : Exit → Act → World → Prop} {E : List PanicEntry → World → Prop}
/-- A store of a row into the middle of a known block, in a chain. -/
theorem wpI_store_mid (ty : TypeId) {dst : Option Tmp} {x y : Operand} {tt : TypeId} {pos : String} {after : Array Edge} {t : Nat} {ts : List Nat} {a : Act} {w : World} (ho : ops[t]? = some { dst := dst, op := .store ty x y, type := tt, pos := pos, after := after, guard := none })
    (b o : Nat) (C : Array Value) (hx : a.eval x = .pointer (some ⟨b, o, none⟩)) (hy : a.eval y = .agg C) (ht : w.there b o C.size)
    (hi : (P.info? ty).map (·.size) = some C.size) (h1 : C.all (·.oneCell') = true)
    (h : ∀ K : Act → World → Prop, (∀ a w, (t ≠ z → J w) → wpI P ops J z Q E ts a w → K a w) → K (a.put dst undef) (w.setCells b o C.toList)) : wpI P ops J z Q E (t :: ts) a w := by
  refine wpI_step ho rfl fun K hK => ?_
  unfold execOp
  simp only [hx, hy, Instr.storeAt, Instr.sureAddr, Sem.run_bind, Sem.run_pure, Result.andThen_ok, run_storeVar_mid w b o ty C ht hi h1]
  exact h K hK
end
end Go.Order
namespace Go.Proofs.Ytgbbpibcmpeneaa
set_option maxRecDepth 200000
open Go.ChangeShapes Go.WideShapes Go.ChangeAt Go.RowKit Go.Cul Go.Loose
set_option linter.unusedVariables false
attribute [local go_sem] Loose.Still Loose.Upon Loose.vUpon First.pUpon

set_option maxHeartbeats 10000000 in
set_option maxRecDepth 200000 in
theorem new_any (c s : Fa) (cs ss : Su) (n : Int) (w : World) (hc : c.ok) (hs : s.ok) (hcs : cs.ok) (hss : ss.ok) :
    Calls Try.prog 20 #[.agg c.cells, .agg s.cells, .agg cs.cells, .agg ss.cells, .int .i64 n] w fun e w' => Ext w w' ∧ ((nwE c s cs ss n = true ∧ e = .returned (.tuple #[.pointer none, .int .i64 1])) ∨ (nwE c s cs ss n = false ∧ ∃ bb, e = .returned (.tuple #[spp bb, .int .i64 0]) ∧ w.heap.size ≤ bb ∧ SpAt w' bb (nwSp c s cs ss n))) := by
  have hE : Hid (nwE c s cs ss n = (decide (n < 0) || decide (16384 < n) || !(nwSh c s ss.sc (c.sack && s.sack)).may || !(nwSh s c cs.sc (c.sack && s.sack)).may)) := rfl
  have hNW : Hid (nwSp c s cs ss n = ⟨⟨cs.lo, cs.re, (c.iss + 1) % 4294967296, c.win, (c.irs + 1 + n) % 4294967296, false, 0, nwSh c s ss.sc (c.sack && s.sack)⟩,
   ⟨ss.lo, ss.re, (s.iss + 1 + n) % 4294967296, s.win, (s.irs + 1) % 4294967296, false, 0, nwSh s c cs.sc (c.sack && s.sack)⟩, false, true⟩) := rfl
  generalize nwE c s cs ss n = EE at *
  generalize nwSp c s cs ss n = NW at *
  have hT : Hid (∀ sk, nwSh c s ss.sc sk = ⟨(s.iss - c.irs) % 4294967296, (s.irs - c.iss) % 4294967296, sk, (if c.sc = -1 then 0 else c.sc), (if s.sc = -1 then 0 else ss.sc), s.mss⟩) := fun _ => rfl
  have hK : Hid (∀ sk, nwSh s c cs.sc sk = ⟨(c.iss - s.irs) % 4294967296, (c.irs - s.iss) % 4294967296, sk, (if s.sc = -1 then 0 else s.sc), (if c.sc = -1 then 0 else cs.sc), c.mss⟩) := fun _ => rfl
  have hmay := Lib.hid (fun (x : Shf) (W : World) => smay_any x W)
  have hscl := Lib.hid (fun (a o : Fa) (told : Int) (W : World) => scales_any a o told W)
  have hm1 : IntKind.i64.wrap c.mss = c.mss := by have := hc.mss; rw [IntKind.wrap_i64]; omega
  have hm2 : IntKind.i64.wrap s.mss = s.mss := by have := hs.mss; rw [IntKind.wrap_i64]; omega
  have q1 : IntKind.u32.wrap (s.iss - c.irs) = (s.iss - c.irs) % 4294967296 := rfl
  have q2 : IntKind.u32.wrap (s.irs - c.iss) = (s.irs - c.iss) % 4294967296 := rfl
  have q3 : IntKind.u32.wrap (c.iss - s.irs) = (c.iss - s.irs) % 4294967296 := rfl
  have q4 : IntKind.u32.wrap (c.irs - s.iss) = (c.irs - s.iss) % 4294967296 := rfl
  clear hc hs hcs hss
  generalize hsk : (c.sack && s.sack) = sk at *
  obtain ⟨iss, irs, mss, sc, sack, win⟩ := c
  obtain ⟨iss', irs', mss', sc', sack', win'⟩ := s
  obtain ⟨lo, re, v2, v3, tsc, v5, v6, v7, v8⟩ := cs
  obtain ⟨lo', re', v2', v3', tsc', v5', v6', v7', v8'⟩ := ss
  have hbx : ∀ (y : Shf), y.cells.all (·.oneCell') = true := fun y => by simp [Value.oneCell']
  have HBX := Lib.hid hbx
  clear hbx
  generalize nwSh ⟨iss, irs, mss, sc, sack, win⟩ ⟨iss', irs', mss', sc', sack', win'⟩ (Su.mk lo' re' v2' v3' tsc' v5' v6' v7' v8').sc = TS at *
  generalize nwSh ⟨iss', irs', mss', sc', sack', win'⟩ ⟨iss, irs, mss, sc, sack, win⟩ (Su.mk lo re v2 v3 tsc v5 v6 v7 v8).sc = KS at *
  obtain ⟨A, hA⟩ : ∃ A : Int, (if sc = -1 then 0 else sc) = A := ⟨_, rfl⟩
  obtain ⟨B, hB⟩ : ∃ B : Int, (if sc' = -1 then 0 else tsc') = B := ⟨_, rfl⟩
  obtain ⟨A2, hA2⟩ : ∃ A : Int, (if sc' = -1 then 0 else sc') = A := ⟨_, rfl⟩
  obtain ⟨B2, hB2⟩ : ∃ B : Int, (if sc = -1 then 0 else tsc) = B := ⟨_, rfl⟩
  have hT2 : Hid (TS sk = ⟨(iss' - irs) % 4294967296, (irs' - iss) % 4294967296, sk, A, B, mss'⟩) := by rw [← hA, ← hB]; exact hT.out sk
  have hK2 : Hid (KS sk = ⟨(iss - irs') % 4294967296, (irs - iss') % 4294967296, sk, A2, B2, mss⟩) := by rw [← hA2, ← hB2]; exact hK.out sk
  have hs1 := Lib.hid (fun (W : World) => (hA ▸ hB ▸ scales_any ⟨iss, irs, mss, sc, sack, win⟩ ⟨iss', irs', mss', sc', sack', win'⟩ tsc' W : Calls Try.prog 31 #[.agg (Fa.cells ⟨iss, irs, mss, sc, sack, win⟩), .agg (Fa.cells ⟨iss', irs', mss', sc', sack', win'⟩), .int .i64 tsc'] W fun e w' => e = .returned (.tuple #[.int .i64 A, .int .i64 B]) ∧ Ext W w'))
  have hs2 := Lib.hid (fun (W : World) => (hA2 ▸ hB2 ▸ scales_any ⟨iss', irs', mss', sc', sack', win'⟩ ⟨iss, irs, mss, sc, sack, win⟩ tsc W : Calls Try.prog 31 #[.agg (Fa.cells ⟨iss', irs', mss', sc', sack', win'⟩), .agg (Fa.cells ⟨iss, irs, mss, sc, sack, win⟩), .int .i64 tsc] W fun e w' => e = .returned (.tuple #[.int .i64 A2, .int .i64 B2]) ∧ Ext W w'))
  clear hT hK hA hB hA2 hB2 hscl
  dsimp only [Fa.cells, Su.cells] at *
  go_enter Try.func20, Try.ntmps20
  go_upto_region 1 with (fail)
  generalize hW : World.alloc (World.alloc (World.alloc (World.alloc w _) _) _) _ = W
  have hxW : Ext w W := by rw [← hW]; exact (((Ext.new _ _).al _).al _).al _
  have ka : W.heap[w.heap.size]? = some (.cells (Fa.cells ⟨iss, irs, mss, sc, sack, win⟩) 75) := by rw [← hW]; simp only [heap_alloc_at, World.size_alloc]; repeat (first | rfl | rw [if_pos (by first | trivial | omega)] | rw [if_neg (by omega)])
  have kb : W.heap[w.heap.size + 1]? = some (.cells (Fa.cells ⟨iss', irs', mss', sc', sack', win'⟩) 75) := by rw [← hW]; simp only [heap_alloc_at, World.size_alloc]; repeat (first | rfl | rw [if_pos (by first | trivial | omega)] | rw [if_neg (by omega)])
  have kc : W.heap[w.heap.size + 1 + 1]? = some (.cells (Su.cells ⟨lo, re, v2, v3, tsc, v5, v6, v7, v8⟩) 76) := by rw [← hW]; simp only [heap_alloc_at, World.size_alloc]; repeat (first | rfl | rw [if_pos (by first | trivial | omega)] | rw [if_neg (by omega)])
  have kd : W.heap[w.heap.size + 1 + 1 + 1]? = some (.cells (Su.cells ⟨lo', re', v2', v3', tsc', v5', v6', v7', v8'⟩) 76) := by rw [← hW]; simp only [heap_alloc_at, World.size_alloc]; repeat (first | rfl | rw [if_pos (by first | trivial | omega)] | rw [if_neg (by omega)])
  have hlW := hxW.size
  have hdW := lt_of_block kd
  clear hW
  have a0 := cell_blk ka 0
  have a1 := cell_blk ka 1
  have a2 := cell_blk ka 2
  have a4 := cell_blk ka 4
  simp at a0 a1 a2 a4
  have b0 := cell_blk kb 0
  have b1 := cell_blk kb 1
  have b2 := cell_blk kb 2
  have b4 := cell_blk kb 4
  simp at b0 b1 b2 b4
  go_cut [12] from 17 (fun v wc => v = .bool sk ∧ wc = W)
  case first =>
    have HSK := Lib.hid hsk
    clear hsk
    cases sack
    all_goals
      go_wp2_with fail
      go_meet
      case rel => exact ⟨by rw [← HSK.out]; rfl, rfl⟩
  obtain ⟨rfl, rfl⟩ := hcut
  obtain ⟨W, rfl⟩ : ∃ W : World, W = wc := ⟨_, rfl⟩
  go_upto_region 2 with (fail)
  go_cut [13, 14] from 17 (fun p q wc => ∃ g13 g14, p = .pointer (some ⟨g13, 0, none⟩) ∧ q = .pointer (some ⟨g14, 0, none⟩) ∧ g13 ≠ g14 ∧ W.heap.size ≤ g13 ∧ W.heap.size ≤ g14 ∧ wc.heap[g13]? = some (.cells (Shf.cells ⟨(iss' - irs) % 4294967296, (irs' - iss) % 4294967296, sk, 0, 0, mss'⟩) 40) ∧ wc.heap[g14]? = some (.cells (Shf.cells ⟨(iss - irs') % 4294967296, (irs - iss') % 4294967296, sk, 0, 0, mss⟩) 40) ∧ Ext W wc)
  case first =>
    have hoT : (Shf.cells ⟨(iss' - irs) % 4294967296, (irs' - iss) % 4294967296, sk, 0, 0, mss'⟩).all (·.oneCell') = true := HBX.out _
    have hoK : (Shf.cells ⟨(iss - irs') % 4294967296, (irs - iss') % 4294967296, sk, 0, 0, mss⟩).all (·.oneCell') = true := HBX.out _
    refine Order.wp_region_two [0, 1, 2, 3, 4, 5, 6, 7, 8, 9, 10, 11, 12, 13, 14, 15, 16, 17, 18, 19, 20, 21, 22, 23, 24, 25, 26, 27, 28, 29] 30 31 [32, 33] 33 (fun w' => Ext W w') (fun _ _ => False) (fun _ _ _ _ h => h.elim) (fun _ h => h) (by kernel_rfl) (by kernel_rfl) (by kernel_rfl) rfl (by kernel_rfl) ?_
    intro wd hwd
    have hwd : Ext W wd := hwd
    iterate 1
      apply Order.wpH_some rfl rfl
      · intro w' hw'; go_simp; exact rfl
      intro K hK; go_simp; refine hK _ ?_; clear hK K
    iterate 1
      apply Order.wpH_some rfl rfl
      · intro w' hw'; have b0 := Ext.cell hw' b0; go_simp; exact rfl
      intro K hK; go_simp; refine hK _ ?_; clear hK K
    iterate 1
      apply Order.wpH_some rfl rfl
      · intro w' hw'; go_simp; exact rfl
      intro K hK; go_simp; refine hK _ ?_; clear hK K
    iterate 1
      apply Order.wpH_some rfl rfl
      · intro w' hw'; have a1 := Ext.cell hw' a1; go_simp; exact rfl
      intro K hK; go_simp; refine hK _ ?_; clear hK K
    iterate 2
      apply Order.wpH_some rfl rfl
      · intro w' hw'; go_simp; exact rfl
      intro K hK; go_simp; refine hK _ ?_; clear hK K
    iterate 1
      apply Order.wpH_some rfl rfl
      · intro w' hw'; have b1 := Ext.cell hw' b1; go_simp; exact rfl
      intro K hK; go_simp; refine hK _ ?_; clear hK K
    iterate 1
      apply Order.wpH_some rfl rfl
      · intro w' hw'; go_simp; exact rfl
      intro K hK; go_simp; refine hK _ ?_; clear hK K
    iterate 1
      apply Order.wpH_some rfl rfl
      · intro w' hw'; have a0 := Ext.cell hw' a0; go_simp; exact rfl
      intro K hK; go_simp; refine hK _ ?_; clear hK K
    iterate 3
      apply Order.wpH_some rfl rfl
      · intro w' hw'; go_simp; exact rfl
      intro K hK; go_simp; refine hK _ ?_; clear hK K
    iterate 1
      apply Order.wpH_some rfl rfl
      · intro w' hw'; have b2 := Ext.cell hw' b2; go_simp; exact rfl
      intro K hK; go_simp; refine hK _ ?_; clear hK K
    iterate 3
      apply Order.wpH_some rfl rfl
      · intro w' hw'; go_simp; exact rfl
      intro K hK; go_simp; refine hK _ ?_; clear hK K
    iterate 1
      apply Order.wpH_some rfl rfl
      · intro w' hw'; have a0 := Ext.cell hw' a0; go_simp; exact rfl
      intro K hK; go_simp; refine hK _ ?_; clear hK K
    iterate 1
      apply Order.wpH_some rfl rfl
      · intro w' hw'; go_simp; exact rfl
      intro K hK; go_simp; refine hK _ ?_; clear hK K
    iterate 1
      apply Order.wpH_some rfl rfl
      · intro w' hw'; have b1 := Ext.cell hw' b1; go_simp; exact rfl
      intro K hK; go_simp; refine hK _ ?_; clear hK K
    iterate 2
      apply Order.wpH_some rfl rfl
      · intro w' hw'; go_simp; exact rfl
      intro K hK; go_simp; refine hK _ ?_; clear hK K
    iterate 1
      apply Order.wpH_some rfl rfl
      · intro w' hw'; have a1 := Ext.cell hw' a1; go_simp; exact rfl
      intro K hK; go_simp; refine hK _ ?_; clear hK K
    iterate 1
      apply Order.wpH_some rfl rfl
      · intro w' hw'; go_simp; exact rfl
      intro K hK; go_simp; refine hK _ ?_; clear hK K
    iterate 1
      apply Order.wpH_some rfl rfl
      · intro w' hw'; have b0 := Ext.cell hw' b0; go_simp; exact rfl
      intro K hK; go_simp; refine hK _ ?_; clear hK K
    iterate 3
      apply Order.wpH_some rfl rfl
      · intro w' hw'; go_simp; exact rfl
      intro K hK; go_simp; refine hK _ ?_; clear hK K
    iterate 1
      apply Order.wpH_some rfl rfl
      · intro w' hw'; have a2 := Ext.cell hw' a2; go_simp; exact rfl
      intro K hK; go_simp; refine hK _ ?_; clear hK K
    iterate 2
      apply Order.wpH_some rfl rfl
      · intro w' hw'; go_simp; exact rfl
      intro K hK; go_simp; refine hK _ ?_; clear hK K
    refine Order.wpH_nil ⟨?_, ?_⟩
    · apply Order.wpI_step rfl rfl
      intro K hK
      go_simp
      refine hK _ _ (fun _ => hwd.al _) ?_
      clear hK K
      apply Order.wpI_step rfl rfl
      intro K hK
      go_simp
      refine hK _ _ (fun _ => (hwd.al _).al _) ?_
      clear hK K
      generalize hV : (World.alloc wd _).alloc _ = V
      have hxV : Ext W V := by rw [← hV]; exact (hwd.al _).al _
      have hsz := hwd.size
      have ga : V.heap[wd.heap.size]? = some (.cells (Shf.cells ⟨0, 0, false, 0, 0, 0⟩) 40) := by rw [← hV]; simp only [heap_alloc_at, World.size_alloc]; simp
      have gb : V.heap[wd.heap.size + 1]? = some (.cells (Shf.cells ⟨0, 0, false, 0, 0, 0⟩) 40) := by rw [← hV]; simp only [heap_alloc_at, World.size_alloc]; simp
      clear hV
      refine Order.wpI_put_row 40 rfl (wd.heap.size) _ (Shf.cells ⟨(iss' - irs) % 4294967296, (irs' - iss) % 4294967296, sk, 0, 0, mss'⟩) _ rfl rfl ga (by kernel_rfl) rfl hoT ?_
      intro V1 ga1 hn1 K hK
      refine hK _ _ (fun _ => hn1.ext hxV (fun k hk => by omega)) ?_
      clear hK K
      refine Order.wpI_put_row 40 rfl (wd.heap.size + 1) _ (Shf.cells ⟨(iss - irs') % 4294967296, (irs - iss') % 4294967296, sk, 0, 0, mss⟩) _ rfl rfl (hn1.keep gb (by omega)) (by kernel_rfl) rfl hoK ?_
      intro V2 gb2 hn2 K hK
      refine hK _ _ (fun h => absurd rfl h) ?_
      clear hK K
      refine Order.wpI_nil ?_
      have ga2 := hn2.keep ga1 (by omega)
      have hx2 : Ext W V2 := hn2.ext (hn1.ext hxV (fun k hk => by omega)) (fun k hk => by omega)
      go_wp2_with fail
      go_meet
      case rel => exact ⟨_, _, rfl, rfl, by omega, by omega, by omega, ga2, gb2, hx2⟩
    · apply Order.wpI_step rfl rfl
      intro K hK
      go_simp
      refine hK _ _ (fun _ => hwd.al _) ?_
      clear hK K
      apply Order.wpI_step rfl rfl
      intro K hK
      go_simp
      refine hK _ _ (fun _ => (hwd.al _).al _) ?_
      clear hK K
      generalize hV : (World.alloc wd _).alloc _ = V
      have hxV : Ext W V := by rw [← hV]; exact (hwd.al _).al _
      have hsz := hwd.size
      have ga : V.heap[wd.heap.size + 1]? = some (.cells (Shf.cells ⟨0, 0, false, 0, 0, 0⟩) 40) := by rw [← hV]; simp only [heap_alloc_at, World.size_alloc]; simp
      have gb : V.heap[wd.heap.size]? = some (.cells (Shf.cells ⟨0, 0, false, 0, 0, 0⟩) 40) := by rw [← hV]; simp only [heap_alloc_at, World.size_alloc]; simp
      clear hV
      refine Order.wpI_put_row 40 rfl (wd.heap.size + 1) _ (Shf.cells ⟨(iss' - irs) % 4294967296, (irs' - iss) % 4294967296, sk, 0, 0, mss'⟩) _ rfl rfl ga (by kernel_rfl) rfl hoT ?_
      intro V1 ga1 hn1 K hK
      refine hK _ _ (fun _ => hn1.ext hxV (fun k hk => by omega)) ?_
      clear hK K
      refine Order.wpI_put_row 40 rfl (wd.heap.size) _ (Shf.cells ⟨(iss - irs') % 4294967296, (irs - iss') % 4294967296, sk, 0, 0, mss⟩) _ rfl rfl (hn1.keep gb (by omega)) (by kernel_rfl) rfl hoK ?_
      intro V2 gb2 hn2 K hK
      refine hK _ _ (fun h => absurd rfl h) ?_
      clear hK K
      refine Order.wpI_nil ?_
      have ga2 := hn2.keep ga1 (by omega)
      have hx2 : Ext W V2 := hn2.ext (hn1.ext hxV (fun k hk => by omega)) (fun k hk => by omega)
      go_wp2_with fail
      go_meet
      case rel => exact ⟨_, _, rfl, rfl, by omega, by omega, by omega, ga2, gb2, hx2⟩
  obtain ⟨g13, g14, rfl, rfl, hne, hg13, hg14, k13, k14, hx2⟩ := hcut
  obtain ⟨w2, rfl⟩ : ∃ w2 : World, w2 = wc := ⟨_, rfl⟩
  have hxw2 := hxW.tr hx2
  have ka := hx2.block ka
  have kb := hx2.block kb
  have kc := hx2.block kc
  have kd := hx2.block kd
  have hlW2 := lt_of_block kd
  clear hx2 a0 a1 a2 a4 b0 b1 b2 b4 hxW q1 q2 q3 q4 hm1 hm2
  have c0 := cell_blk kc 0
  have c1 := cell_blk kc 1
  have c4 := cell_blk kc 4
  simp at c0 c1 c4
  have d0 := cell_blk kd 0
  have d1 := cell_blk kd 1
  have d4 := cell_blk kd 4
  simp at d0 d1 d4
  go_upto_region 3 with (fail)
  go_wp2_with (first | (refine wpList_load_bigG 75 w.heap.size _ _ _ rfl ka rfl Try.underlying75 rfl (by kernel_rfl) ?_) | (refine wpList_load_bigG 75 (w.heap.size + 1) _ _ _ rfl kb rfl Try.underlying75 rfl (by kernel_rfl) ?_))
  refine (hs1.out _).mono ?_
  rintro e w3 ⟨rfl, hx3⟩
  have k13 := hx3.block k13
  have k14 := hx3.block k14
  have ka := hx3.block ka
  have kb := hx3.block kb
  have kc := hx3.block kc
  have kd := hx3.block kd
  have hxw3 := hxw2.tr hx3
  clear hx3 hxw2 c0 c1 c4 d0 d1 d4 hs1
  go_upto_region 4 with (first | (refine wpList_put_cell 3 g13 3 _ _ (.int .i64 A) rfl rfl k13 (by kernel_rfl) (by show 3 < 6; decide) rfl rfl ?_; intro V3 k3 m3) | (refine wpList_put_cell 3 g13 4 _ _ (.int .i64 B) rfl rfl k3 (by kernel_rfl) (by simp) rfl rfl ?_; intro V4 k4 m4))
  have mm : Mvs (fun j => j = g13) w3 V4 := m3.tr m4
  have k13 : V4.heap[g13]? = some (.cells (TS sk).cells 40) := by rw [hT2.out]; exact k4
  have k14 := mm.keep k14 (by omega)
  have ka := mm.keep ka (by omega)
  have kb := mm.keep kb (by omega)
  have kc := mm.keep kc (by omega)
  have kd := mm.keep kd (by omega)
  have hxw4 : Ext w V4 := mm.ext hxw3 (fun k hk => by omega)
  clear m3 m4 k3 k4 mm hxw3 hT2
  obtain ⟨w4, rfl⟩ : ∃ w4 : World, w4 = V4 := ⟨_, rfl⟩
  have c4 := cell_blk kc 4
  simp at c4
  go_wp2_with (first | (refine wpList_load_bigG 75 w.heap.size _ _ _ rfl ka rfl Try.underlying75 rfl (by kernel_rfl) ?_) | (refine wpList_load_bigG 75 (w.heap.size + 1) _ _ _ rfl kb rfl Try.underlying75 rfl (by kernel_rfl) ?_))
  refine (hs2.out _).mono ?_
  rintro e w5 ⟨rfl, hx5⟩
  have k13 := hx5.block k13
  have k14 := hx5.block k14
  have ka := hx5.block ka
  have kb := hx5.block kb
  have kc := hx5.block kc
  have kd := hx5.block kd
  have hxw5 := hxw4.tr hx5
  clear hx5 hxw4 c4 hs2
  go_upto_region 5 with (first | (refine wpList_put_cell 3 g14 3 _ _ (.int .i64 A2) rfl rfl k14 (by kernel_rfl) (by show 3 < 6; decide) rfl rfl ?_; intro V3 k3 m3) | (refine wpList_put_cell 3 g14 4 _ _ (.int .i64 B2) rfl rfl k3 (by kernel_rfl) (by simp) rfl rfl ?_; intro V4 k4 m4))
  have mm : Mvs (fun j => j = g14) w5 V4 := m3.tr m4
  have k14 : V4.heap[g14]? = some (.cells (KS sk).cells 40) := by rw [hK2.out]; exact k4
  have k13 := mm.keep k13 (by omega)
  have ka := mm.keep ka (by omega)
  have kb := mm.keep kb (by omega)
  have kc := mm.keep kc (by omega)
  have kd := mm.keep kd (by omega)
  have hxw6 : Ext w V4 := mm.ext hxw5 (fun k hk => by omega)
  clear m3 m4 k3 k4 mm hxw5 hK2
  obtain ⟨w6, rfl⟩ : ∃ w6 : World, w6 = V4 := ⟨_, rfl⟩
  generalize TS sk = T at *
  generalize KS sk = K at *
  by_cases n0 : n < 0
  · have HE := Lib.hid (hE.out.trans (show _ = true by simp [n0]))
    go_wp2_with fail
    refine bodyPost_ret (v := .tuple #[.pointer none, .int .i64 1]) (by simp [results, Try.results20, go_sem]) rfl ?_
    exact ⟨hxw6, .inl ⟨HE.out, rfl⟩⟩
  by_cases n1 : 16384 < n
  · have HE := Lib.hid (hE.out.trans (show _ = true by simp [n1]))
    go_wp2_with fail
    refine bodyPost_ret (v := .tuple #[.pointer none, .int .i64 1]) (by simp [results, Try.results20, go_sem]) rfl ?_
    exact ⟨hxw6, .inl ⟨HE.out, rfl⟩⟩
  go_wp2_with (refine wpList_load_bigG 40 g13 _ _ _ rfl k13 rfl Try.underlying40 rfl (by kernel_rfl) ?_)
  refine (hmay.out T _).mono ?_
  rintro e w7 ⟨rfl, hx7⟩
  have hxw7 := hxw6.tr hx7
  cases hq1 : T.may
  · have HE := Lib.hid (hE.out.trans (show _ = true by simp [hq1]))
    go_wp2_with fail
    refine bodyPost_ret (v := .tuple #[.pointer none, .int .i64 1]) (by simp [results, Try.results20, go_sem]) rfl ?_
    exact ⟨hxw7, .inl ⟨HE.out, rfl⟩⟩
  have k13 := hx7.block k13
  have k14 := hx7.block k14
  have ka := hx7.block ka
  have kb := hx7.block kb
  have kc := hx7.block kc
  have kd := hx7.block kd
  clear hx7 hxw6
  go_wp2_with (refine wpList_load_bigG 40 g14 _ _ _ rfl k14 rfl Try.underlying40 rfl (by kernel_rfl) ?_)
  refine (hmay.out K _).mono ?_
  rintro e w8 ⟨rfl, hx8⟩
  have hxw8 := hxw7.tr hx8
  cases hq2 : K.may
  · have HE := Lib.hid (hE.out.trans (show _ = true by simp [hq2]))
    go_wp2_with fail
    refine bodyPost_ret (v := .tuple #[.pointer none, .int .i64 1]) (by simp [results, Try.results20, go_sem]) rfl ?_
    exact ⟨hxw8, .inl ⟨HE.out, rfl⟩⟩
  have HE := Lib.hid (hE.out.trans (show _ = false by simp [n0, n1, hq1, hq2]))
  have k13 := hx8.block k13
  have k14 := hx8.block k14
  have ka := hx8.block ka
  have kb := hx8.block kb
  have kc := hx8.block kc
  have kd := hx8.block kd
  have hwn : IntKind.u32.wrap n = n := by rw [IntKind.wrap_u32]; omega
  clear hx8 hxw7 hE hmay hq1 hq2 n0 n1
  go_upto_region 9 with (refine wpList_build_big 70 (Sp.cells ⟨⟨0, 0, 0, 0, 0, false, 0, ⟨0, 0, false, 0, 0, 0⟩⟩, ⟨0, 0, 0, 0, 0, false, 0, ⟨0, 0, false, 0, 0, 0⟩⟩, false, true⟩) _ rfl (by kernel_rfl) ?_)
  generalize hV : w8.alloc _ = V
  have hxV : Ext w V := by rw [← hV]; exact hxw8.al _
  have kx : SpAt V w8.heap.size ⟨⟨0, 0, 0, 0, 0, false, 0, ⟨0, 0, false, 0, 0, 0⟩⟩, ⟨0, 0, 0, 0, 0, false, 0, ⟨0, 0, false, 0, 0, 0⟩⟩, false, true⟩ := by rw [← hV]; exact heap_alloc_new w8 _
  have hal : ∀ {k : Nat} {o : Obj}, w8.heap[k]? = some o → V.heap[k]? = some o := fun h => by rw [← hV]; exact (Ext.new w8 _).block h
  have hl13 := lt_of_block k13
  have hl14 := lt_of_block k14
  have hla := lt_of_block kd
  have hlw := hxw8.size
  have k13 := hal k13
  have k14 := hal k14
  have ka := hal ka
  have kb := hal kb
  have kc := hal kc
  have kd := hal kd
  clear hal hV hxw8
  generalize w8.heap.size = bb at *
  have r13 : V.rangeAt g13 0 T.cells.toList := fun j v hv => by rw [Nat.zero_add, cell_blk k13]; simpa using hv
  have a0 := cell_blk ka 0
  have a1 := cell_blk ka 1
  have a5 := cell_blk ka 5
  simp at a0 a1 a5
  have c0 := cell_blk kc 0
  have c1 := cell_blk kc 1
  simp at c0 c1
  have p1 : IntKind.u32.wrap (iss + 1) = (iss + 1) % 4294967296 := rfl
  have p2 : IntKind.u32.wrap (irs + 1) = (irs + 1) % 4294967296 := rfl
  have p3 : IntKind.u32.wrap ((irs + 1) % 4294967296 + n) = (irs + 1 + n) % 4294967296 := by rw [IntKind.wrap_u32]; omega
  have hone : ∀ e : En, e.cells.all (·.oneCell') = true := fun e => by simp [Value.oneCell']
  have HONE := Lib.hid hone
  clear hone
  refine Order.wp_region_order [0, 1, 2, 3, 4, 5, 6, 7, 8, 9, 10, 11, 12, 13, 14, 15, 16, 17, 18, 19] [20] 99 (fun w' => Mvs (fun j => j = bb) V w') (fun _ _ => False) (fun _ _ _ _ h => h.elim) (fun _ h => Mvs.ofExt h) (by kernel_rfl) (by kernel_rfl) (by kernel_rfl) rfl (by kernel_rfl) ?_
  intro wd hwd
  have hwd : Ext V wd := hwd
  apply Order.wpH_some rfl rfl
  · intro w' hw'; go_simp; exact rfl
  intro K hK; go_simp; refine hK _ ?_; clear hK K
  apply Order.wpH_some rfl rfl
  · intro w' hw'; go_simp; exact rfl
  intro K hK; go_simp; refine hK _ ?_; clear hK K
  apply Order.wpH_some rfl rfl
  · intro w' hw'; have c0 := cellM hw' c0 (by dsimp only; omega); go_simp; exact rfl
  intro K hK; go_simp; refine hK _ ?_; clear hK K
  apply Order.wpH_some rfl rfl
  · intro w' hw'; go_simp; exact rfl
  intro K hK; go_simp; refine hK _ ?_; clear hK K
  apply Order.wpH_some rfl rfl
  · intro w' hw'; have c1 := cellM hw' c1 (by dsimp only; omega); go_simp; exact rfl
  intro K hK; go_simp; refine hK _ ?_; clear hK K
  apply Order.wpH_some rfl rfl
  · intro w' hw'; go_simp; exact rfl
  intro K hK; go_simp; refine hK _ ?_; clear hK K
  apply Order.wpH_some rfl rfl
  · intro w' hw'; have a0 := cellM hw' a0 (by dsimp only; omega); go_simp; exact rfl
  intro K hK; go_simp; refine hK _ ?_; clear hK K
  apply Order.wpH_some rfl rfl
  · intro w' hw'; go_simp; exact rfl
  intro K hK; go_simp; refine hK _ ?_; clear hK K
  apply Order.wpH_some rfl rfl
  · intro w' hw'; go_simp; exact rfl
  intro K hK; go_simp; refine hK _ ?_; clear hK K
  apply Order.wpH_some rfl rfl
  · intro w' hw'; have a5 := cellM hw' a5 (by dsimp only; omega); go_simp; exact rfl
  intro K hK; go_simp; refine hK _ ?_; clear hK K
  apply Order.wpH_some rfl rfl
  · intro w' hw'; go_simp; exact rfl
  intro K hK; go_simp; refine hK _ ?_; clear hK K
  apply Order.wpH_some rfl rfl
  · intro w' hw'; have a1 := cellM hw' a1 (by dsimp only; omega); go_simp; exact rfl
  intro K hK; go_simp; refine hK _ ?_; clear hK K
  apply Order.wpH_some rfl rfl
  · intro w' hw'; go_simp; exact rfl
  intro K hK; go_simp; refine hK _ ?_; clear hK K
  apply Order.wpH_some rfl rfl
  · intro w' hw'; go_simp; exact rfl
  intro K hK; go_simp; refine hK _ ?_; clear hK K
  apply Order.wpH_some rfl rfl
  · intro w' hw'; go_simp; exact rfl
  intro K hK; go_simp; refine hK _ ?_; clear hK K
  apply Order.wpH_some rfl rfl
  · intro w' hw'
    exact Order.look_load 40 _ rfl g13 0 rfl T.cells _ (fun j v hv => cellM hw' (r13 j v hv) (by show g13 ≠ bb; omega)) Try.underlying40 rfl (by kernel_rfl)
  intro K hK; go_simp; refine hK _ ?_; clear hK K
  apply Order.wpH_some rfl rfl
  · intro w' hw'; go_simp; exact rfl
  intro K hK; go_simp; refine hK _ ?_; clear hK K
  apply Order.wpH_some rfl rfl
  · intro w' hw'; go_simp; exact rfl
  intro K hK; go_simp; refine hK _ ?_; clear hK K
  apply Order.wpH_some rfl rfl
  · intro w' hw'; go_simp; exact rfl
  intro K hK; go_simp; refine hK _ ?_; clear hK K
  apply Order.wpH_some rfl rfl
  · intro w' hw'; go_simp; exact rfl
  intro K hK; go_simp; refine hK _ ?_; clear hK K
  refine Order.wpH_nil ?_
  have kx := hwd.block kx
  refine Order.wpI_store_mid 67 rfl bb _ (En.cells ⟨lo, re, (iss + 1) % 4294967296, win, (irs + 1 + n) % 4294967296, false, 0, T⟩) rfl rfl (sp_there kx false) (by kernel_rfl) (HONE.out _) ?_
  have kx : SpAt (wd.setCells bb 0 (En.cells ⟨lo, re, (iss + 1) % 4294967296, win, (irs + 1 + n) % 4294967296, false, 0, T⟩).toList) bb _ := sp_put_end kx false ⟨lo, re, (iss + 1) % 4294967296, win, (irs + 1 + n) % 4294967296, false, 0, T⟩
  have m1 := mvs_setCells (b := bb) (En.cells ⟨lo, re, (iss + 1) % 4294967296, win, (irs + 1 + n) % 4294967296, false, 0, T⟩).toList 0 wd
  have mV : Mvs (fun j => j = bb) V (wd.setCells bb 0 (En.cells ⟨lo, re, (iss + 1) % 4294967296, win, (irs + 1 + n) % 4294967296, false, 0, T⟩).toList) := (Mvs.ofExt hwd).tr m1
  clear m1
  generalize wd.setCells bb 0 (En.cells ⟨lo, re, (iss + 1) % 4294967296, win, (irs + 1 + n) % 4294967296, false, 0, T⟩).toList = V1 at *
  intro K2 hK2
  refine hK2 _ _ (fun _ => mV) ?_
  clear hK2 K2
  refine Order.wpI_nil ?_
  simp only [Act.put]
  have hxV1 : Ext w V1 := mV.ext hxV (fun k hk => by omega)
  have k14 := mV.keep k14 (by omega)
  have kb := mV.keep kb (by omega)
  have kd := mV.keep kd (by omega)
  clear mV hwd r13 a0 a1 a5 c0 c1 k13 ka kc hxV
  have r14 : V1.rangeAt g14 0 K.cells.toList := fun j v hv => by rw [Nat.zero_add, cell_blk k14]; simpa using hv
  have b0 := cell_blk kb 0
  have b1 := cell_blk kb 1
  have b5 := cell_blk kb 5
  simp at b0 b1 b5
  have d0 := cell_blk kd 0
  have d1 := cell_blk kd 1
  simp at d0 d1
  have p1 : IntKind.u32.wrap (iss' + 1) = (iss' + 1) % 4294967296 := rfl
  have p3 : IntKind.u32.wrap ((iss' + 1) % 4294967296 + n) = (iss' + 1 + n) % 4294967296 := by rw [IntKind.wrap_u32]; omega
  have p2 : IntKind.u32.wrap (irs' + 1) = (irs' + 1) % 4294967296 := rfl
  go_upto_region 10 with (fail)
  refine Order.wp_region_order [0, 1, 2, 3, 4, 5, 6, 7, 8, 9, 10, 11, 12, 13, 14, 15, 16, 17, 18, 19] [20] 99 (fun w' => Mvs (fun j => j = bb) V1 w') (fun _ _ => False) (fun _ _ _ _ h => h.elim) (fun _ h => Mvs.ofExt h) (by kernel_rfl) (by kernel_rfl) (by kernel_rfl) rfl (by kernel_rfl) ?_
  intro wd hwd
  have hwd : Ext V1 wd := hwd
  apply Order.wpH_some rfl rfl
  · intro w' hw'; go_simp; exact rfl
  intro K hK; go_simp; refine hK _ ?_; clear hK K
  apply Order.wpH_some rfl rfl
  · intro w' hw'; go_simp; exact rfl
  intro K hK; go_simp; refine hK _ ?_; clear hK K
  apply Order.wpH_some rfl rfl
  · intro w' hw'; have d0 := cellM hw' d0 (by dsimp only; omega); go_simp; exact rfl
  intro K hK; go_simp; refine hK _ ?_; clear hK K
  apply Order.wpH_some rfl rfl
  · intro w' hw'; go_simp; exact rfl
  intro K hK; go_simp; refine hK _ ?_; clear hK K
  apply Order.wpH_some rfl rfl
  · intro w' hw'; have d1 := cellM hw' d1 (by dsimp only; omega); go_simp; exact rfl
  intro K hK; go_simp; refine hK _ ?_; clear hK K
  apply Order.wpH_some rfl rfl
  · intro w' hw'; go_simp; exact rfl
  intro K hK; go_simp; refine hK _ ?_; clear hK K
  apply Order.wpH_some rfl rfl
  · intro w' hw'; have b0 := cellM hw' b0 (by dsimp only; omega); go_simp; exact rfl
  intro K hK; go_simp; refine hK _ ?_; clear hK K
  apply Order.wpH_some rfl rfl
  · intro w' hw'; go_simp; exact rfl
  intro K hK; go_simp; refine hK _ ?_; clear hK K
  apply Order.wpH_some rfl rfl
  · intro w' hw'; go_simp; exact rfl
  intro K hK; go_simp; refine hK _ ?_; clear hK K
  apply Order.wpH_some rfl rfl
  · intro w' hw'; go_simp; exact rfl
  intro K hK; go_simp; refine hK _ ?_; clear hK K
  apply Order.wpH_some rfl rfl
  · intro w' hw'; go_simp; exact rfl
  intro K hK; go_simp; refine hK _ ?_; clear hK K
  apply Order.wpH_some rfl rfl
  · intro w' hw'; have b5 := cellM hw' b5 (by dsimp only; omega); go_simp; exact rfl
  intro K hK; go_simp; refine hK _ ?_; clear hK K
  apply Order.wpH_some rfl rfl
  · intro w' hw'; go_simp; exact rfl
  intro K hK; go_simp; refine hK _ ?_; clear hK K
  apply Order.wpH_some rfl rfl
  · intro w' hw'; have b1 := cellM hw' b1 (by dsimp only; omega); go_simp; exact rfl
  intro K hK; go_simp; refine hK _ ?_; clear hK K
  apply Order.wpH_some rfl rfl
  · intro w' hw'; go_simp; exact rfl
  intro K hK; go_simp; refine hK _ ?_; clear hK K
  apply Order.wpH_some rfl rfl
  · intro w' hw'
    exact Order.look_load 40 _ rfl g14 0 rfl K.cells _ (fun j v hv => cellM hw' (r14 j v hv) (by show g14 ≠ bb; omega)) Try.underlying40 rfl (by kernel_rfl)
  intro K hK; go_simp; refine hK _ ?_; clear hK K
  apply Order.wpH_some rfl rfl
  · intro w' hw'; go_simp; exact rfl
  intro K hK; go_simp; refine hK _ ?_; clear hK K
  apply Order.wpH_some rfl rfl
  · intro w' hw'; go_simp; exact rfl
  intro K hK; go_simp; refine hK _ ?_; clear hK K
  apply Order.wpH_some rfl rfl
  · intro w' hw'; go_simp; exact rfl
  intro K hK; go_simp; refine hK _ ?_; clear hK K
  apply Order.wpH_some rfl rfl
  · intro w' hw'; go_simp; exact rfl
  intro K hK; go_simp; refine hK _ ?_; clear hK K
  refine Order.wpH_nil ?_
  have kx := hwd.block kx
  refine Order.wpI_store_mid 67 rfl bb _ (En.cells ⟨lo', re', (iss' + 1 + n) % 4294967296, win', (irs' + 1) % 4294967296, false, 0, K⟩) rfl rfl (sp_there kx true) (by kernel_rfl) (HONE.out _) ?_
  have kx : SpAt (wd.setCells bb 13 (En.cells ⟨lo', re', (iss' + 1 + n) % 4294967296, win', (irs' + 1) % 4294967296, false, 0, K⟩).toList) bb _ := sp_put_end kx true ⟨lo', re', (iss' + 1 + n) % 4294967296, win', (irs' + 1) % 4294967296, false, 0, K⟩
  have m1 := mvs_setCells (b := bb) (En.cells ⟨lo', re', (iss' + 1 + n) % 4294967296, win', (irs' + 1) % 4294967296, false, 0, K⟩).toList 13 wd
  have mV : Mvs (fun j => j = bb) V1 (wd.setCells bb 13 (En.cells ⟨lo', re', (iss' + 1 + n) % 4294967296, win', (irs' + 1) % 4294967296, false, 0, K⟩).toList) := (Mvs.ofExt hwd).tr m1
  clear m1
  generalize wd.setCells bb 13 (En.cells ⟨lo', re', (iss' + 1 + n) % 4294967296, win', (irs' + 1) % 4294967296, false, 0, K⟩).toList = V2 at *
  intro K2 hK2
  refine hK2 _ _ (fun _ => mV) ?_
  clear hK2 K2
  refine Order.wpI_nil ?_
  simp only [Act.put]
  have hxV2 : Ext w V2 := mV.ext hxV1 (fun k hk => by omega)
  have HX := Lib.hid hxV2
  have HKX := Lib.hid kx
  clear mV hwd r14 b0 b1 b5 d0 d1 kb kd k14 hxV1 hxV2 kx
  go_wp2_with fail
  refine bodyPost_ret (v := .tuple #[spp bb, .int .i64 0]) (by simp [results, Try.results20, go_sem]) rfl ?_
  exact ⟨HX.out, .inr ⟨HE.out, bb, rfl, by omega, by rw [hNW.out]; exact HKX.out⟩⟩
end Go.Proofs.Ytgbbpibcmpeneaa

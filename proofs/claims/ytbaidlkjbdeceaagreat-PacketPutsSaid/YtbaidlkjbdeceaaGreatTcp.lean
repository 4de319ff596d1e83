/-
  Proved here: what tcp.Put computes. Conditions: numbers within their kinds, at most 2^47 - 4096 bytes.
-/
import Derived.Test.YtbaidlkjbdeceaaGreatOptsP
import Derived.Test.YtbaidlkjbdeceaaGreatCore
import Derived.Test.YtbaidlkjbdeceaaGreatPlain
import Derived.Test.YtbaidlkjbdeceaaGreatUdp
namespace Go.Proofs.YtbaidlkjbdeceaaGreat
set_option maxRecDepth 200000
open Go.ChangeShapes Go.WideShapes Go.ChangeAt Go.RowKit Go.Cul Go.Loose
set_option linter.unusedVariables false
attribute [local go_sem] Loose.Still Loose.Upon Loose.vUpon

/-- A segment. -/
structure Sg where
  sp : Int
  dp : Int
  seq : Int
  ack : Int
  f : Int
  win : Int
  urg : Int
  os : List Op1
  data : List Int
structure Sg.ok (g : Sg) : Prop where
  sp : 0 ≤ g.sp ∧ g.sp ≤ 65535
  dp : 0 ≤ g.dp ∧ g.dp ≤ 65535
  seq : 0 ≤ g.seq ∧ g.seq ≤ 4294967295
  ack : 0 ≤ g.ack ∧ g.ack ≤ 4294967295
  f : 0 ≤ g.f ∧ g.f ≤ 255
  win : 0 ≤ g.win ∧ g.win ≤ 65535
  urg : 0 ≤ g.urg ∧ g.urg ≤ 65535
  os : BytO g.os
  data : Byt g.data
abbrev Sg.cells (g : Sg) (vo vd : Value) : Array Value := #[.int .u16 g.sp, .int .u16 g.dp, .int .u32 g.seq, .int .u32 g.ack, .int .u8 g.f, .int .u16 g.win, .int .u16 g.urg, vo, vd]
def Sg.none : Sg := ⟨0, 0, 0, 0, 0, 0, 0, [], []⟩

/-- The bytes of a segment with a field. -/
def Sg.pre (g : Sg) (n : Int) : List Int := by2 g.sp ++ by2 g.dp ++ by4 g.seq ++ by4 g.ack ++ [n / 4 * 16, g.f] ++ by2 g.win
def Sg.lay (g : Sg) (o : List Int) (f : Int) : List Int := g.pre (20 + o.length) ++ by2 f ++ by2 g.urg ++ o ++ g.data
def Sg.field (g : Sg) (s d : Int) (o : List Int) : Int := 65535 - csum (pseu s d 6 (20 + o.length + g.data.length) ++ g.lay o 0)
/-- A segment's bytes, the error. -/
def tput (s d : Int) (g : Sg) : List Int × Int :=
  if (oput g.os).2 ≠ 0 then ([], (oput g.os).2) else if 1480 < 20 + (oput g.os).1.length + g.data.length then ([], 3) else (g.lay (oput g.os).1 (g.field s d (oput g.os).1), 0)

theorem _root_.Go.Cul.Mvs.grown {S : Nat → Prop} {W w w' : World} {r : Option Nat} (hm : Mvs S W w) (hg : w.grownBy w' r) (hr : ∀ j, r = some j → W.heap.size ≤ j) : Mvs S W w' :=
  ⟨hg.os.trans hm.os, hg.tape.trans hm.tape, hg.output.trans hm.output, Nat.le_trans hm.size hg.size, fun k hk hS => (hg.block k (Nat.lt_of_lt_of_le hk hm.size) (fun e => by have := hr k e.symm; omega)).trans (hm.block k hk hS)⟩
/-- Where an append's slice may lie. -/
theorem at_ne {v v' : Value} {N B : Nat} (h : v'.ownBlock = v.ownBlock ∨ v'.ownBlock = some N) (hv : v.ownBlock ≠ some B) (hB : B < N) : v'.ownBlock ≠ some B := by
  rcases h with h | h
  · rw [h]; exact hv
  · rw [h]; intro he; cases he; omega
theorem at_ge {v v' : Value} {N M : Nat} (h : v'.ownBlock = v.ownBlock ∨ v'.ownBlock = some N) (hv : ∀ j, v.ownBlock = some j → M ≤ j) (hB : M ≤ N) : ∀ j, v'.ownBlock = some j → M ≤ j := by
  intro j hj
  rcases h with h | h
  · rw [h] at hj; exact hv j hj
  · rw [h] at hj; cases hj; exact hB

theorem two_any (n : Int) (B : Nat) (v : Value) (l : List Int) (w : World) (kb : w.heap[B]? = some (.cells #[v] 24)) (hv : Rd .u8 w v l) (hl : l.length ≤ 1480) (hn : 0 ≤ n ∧ n ≤ 65535) :
    Calls Tryz.prog 60 #[.int .u16 n, .pointer (some ⟨B, 0, none⟩)] w fun e w' => ∃ u, e = .returned (.tuple #[]) ∧ w'.heap[B]? = some (.cells #[u] 24) ∧ Own w' w.heap.size 5 .u8 u (l ++ by2 n) ∧ Mvs (fun k => k = B) w w' := by
  obtain ⟨a, c, rfl, -, -, -⟩ := id hv
  have hB := lt_of_block kb
  have e0 := cell_blk kb 0
  simp at e0
  go_enter Tryz.func60, Tryz.ntmps60
  go_wp2_with fail
  refine (wu16_any _ l n _ hv (by omega) hn).mono ?_
  rintro e w1 ⟨u, rfl, hu, hx⟩
  have kb := hx.block kb
  have e1 := cell_blk kb 0
  simp at e1
  have ef := fz_blk kb 0
  obtain ⟨a1, n1, c1, rfl⟩ := hu.rd.shape
  clear e0
  go_wp2_with fail
  exact ⟨rfl, _, by simp [results, Tryz.results60], .slice a1 n1 c1, rfl, by have := set_blk kb 0 (.slice a1 n1 c1); simpa using this, hu.other (fun he => by have := (hu.block _ he).1; dsimp only at this; omega) _, (Mvs.ofExt hx).tr (Mvs.set _ _ _ rfl)⟩

theorem four_any (n : Int) (B : Nat) (v : Value) (l : List Int) (w : World) (kb : w.heap[B]? = some (.cells #[v] 24)) (hv : Rd .u8 w v l) (hl : l.length ≤ 1480) (hn : 0 ≤ n ∧ n ≤ 4294967295) :
    Calls Tryz.prog 61 #[.int .u32 n, .pointer (some ⟨B, 0, none⟩)] w fun e w' => ∃ u, e = .returned (.tuple #[]) ∧ w'.heap[B]? = some (.cells #[u] 24) ∧ Own w' w.heap.size 5 .u8 u (l ++ by4 n) ∧ Mvs (fun k => k = B) w w' := by
  obtain ⟨a, c, rfl, -, -, -⟩ := id hv
  have hB := lt_of_block kb
  have e0 := cell_blk kb 0
  simp at e0
  go_enter Tryz.func61, Tryz.ntmps61
  go_wp2_with fail
  refine (wu32_any _ l n _ hv (by omega) hn).mono ?_
  rintro e w1 ⟨u, rfl, hu, hx⟩
  have kb := hx.block kb
  have e1 := cell_blk kb 0
  simp at e1
  have ef := fz_blk kb 0
  obtain ⟨a1, n1, c1, rfl⟩ := hu.rd.shape
  clear e0
  go_wp2_with fail
  exact ⟨rfl, _, by simp [results, Tryz.results61], .slice a1 n1 c1, rfl, by have := set_blk kb 0 (.slice a1 n1 c1); simpa using this, hu.other (fun he => by have := (hu.block _ he).1; dsimp only at this; omega) _, (Mvs.ofExt hx).tr (Mvs.set _ _ _ rfl)⟩

theorem quo4 (n : Int) (h : 20 ≤ n ∧ n ≤ 60) : IntKind.u8.wrap (n.tdiv 4) = n / 4 ∧ IntKind.u8.wrap (n / 4 * 16) = n / 4 * 16 := by
  have h1 : n.tdiv 4 = n / 4 := Int.tdiv_eq_ediv_of_nonneg (by omega)
  rw [h1]
  simp [IntKind.wrap, IntKind.bits, IntKind.signed]
  omega

theorem vupon_copy {P : Program} {k : IntKind} {t e : TypeId} {bytes : Nat} (is : IS P k t e bytes) {o : Oper} {a : Act} {w : World} (s x : Operand)
    (ho : o.op = .call { callee := .builtin .copy, args := #[s, x], argTypes := #[t, t] }) (base g n cap : Nat) (l : List Int) (hown : Own w base e k (.slice (some ⟨g, 0, none⟩) n cap) l) (p m dc : Nat) (hs : a.eval s = .slice (some ⟨g, p, none⟩) m dc)
    (u : Value) (r : List Int) (hx : a.eval x = u) (hr : Rd k w u r) (hr0 : 0 < r.length) (hm : r.length ≤ m) (hp : p + m ≤ l.length) {K : Act → World → Prop}
    (h : ∀ v' w', Own w' base e k (.slice (some ⟨g, 0, none⟩) n cap) (l.take p ++ r ++ l.drop (p + r.length)) → Mvs (fun j => j = g) w w' → K (a.put o.dst v') w') : Loose.vUpon P o a K ((execOp a.eval o).run P w) := by
  obtain ⟨v', w', hrun, h2, h3⟩ := run_copy_mine is w base o.type g n cap l hown p m dc u r hr hr0 hm hp
  unfold execOp
  simp only [ho, resolve, invoke, builtin, Sem.run_bind, Sem.run_pure, Result.andThen_ok, List.map_toArray, List.map_cons, List.map_nil, hs, hx, hrun, Loose.vUpon]
  exact h v' w' h2 h3

theorem pre_byt {g : Sg} (hg : g.ok) {n : Int} (hn : 20 ≤ n ∧ n ≤ 60) : Byt (g.pre n) := by
  unfold Sg.pre
  refine ((((Byt.app ?_ ?_).app ?_).app ?_).app ?_).app ?_
  · exact by2_byt _ hg.sp
  · exact by2_byt _ hg.dp
  · exact by4_byt _ hg.seq
  · exact by4_byt _ hg.ack
  · intro x hx
    simp only [List.mem_cons, List.not_mem_nil, or_false] at hx
    rcases hx with rfl | rfl
    · omega
    · exact hg.f
  · exact by2_byt _ hg.win
theorem lay_byt {g : Sg} (hg : g.ok) {O : List Int} (hO : Byt O) (hl : O.length ≤ 40) {f : Int} (hf : 0 ≤ f ∧ f ≤ 65535) : Byt (g.lay O f) := by
  unfold Sg.lay
  refine (((Byt.app ?_ ?_).app ?_).app ?_).app ?_
  · exact pre_byt hg (by omega)
  · exact by2_byt _ hf
  · exact by2_byt _ hg.urg
  · exact hO
  · exact hg.data
theorem lay_len (g : Sg) (O : List Int) (f : Int) : (g.lay O f).length = 20 + O.length + g.data.length := by
  simp only [Sg.lay, Sg.pre, by2, by4, List.length_append, List.length_cons, List.length_nil]

theorem tput_err {s d : Int} {g : Sg} {O : List Int} {E : Int} (h : oput g.os = (O, E)) (he : E ≠ 0) : tput s d g = ([], E) := by unfold tput; rw [h]; rw [if_pos he]
theorem tput_long {s d : Int} {g : Sg} {O : List Int} (h : oput g.os = (O, 0)) (hl : 1480 < 20 + O.length + g.data.length) : tput s d g = ([], 3) := by unfold tput; rw [h]; rw [if_neg (by simp), if_pos hl]
theorem tput_fit {s d : Int} {g : Sg} {O : List Int} (h : oput g.os = (O, 0)) (hl : ¬ 1480 < 20 + O.length + g.data.length) : tput s d g = (g.lay O (g.field s d O), 0) := by unfold tput; rw [h]; rw [if_neg (by simp), if_neg hl]

set_option maxHeartbeats 1000000 in
theorem tput_any (s d : Int) (g : Sg) (vo vd : Value) (w : World) (hg : g.ok) (hvo : RdO w vo g.os) (hvd : Rd .u8 w vd g.data) (hs : 0 ≤ s ∧ s ≤ 4294967295) (hd : 0 ≤ d ∧ d ≤ 4294967295) (hn : g.data.length ≤ 140737488351232) :
    Calls Tryz.prog 33 #[.int .u32 s, .int .u32 d, .agg (g.cells vo vd)] w fun e w' => ∃ u, e = .returned (.tuple #[u, .int .i64 (tput s d g).2]) ∧ Own w' w.heap.size 5 .u8 u (tput s d g).1 ∧ Ext w w' := by
  have HU1 : Hid (∀ (O : List Int) (E : Int), oput g.os = (O, E) → E ≠ 0 → tput s d g = ([], E)) := fun O E h => tput_err h
  have HU2 : Hid (∀ O : List Int, oput g.os = (O, 0) → 1480 < 20 + O.length + g.data.length → tput s d g = ([], 3)) := fun O h => tput_long h
  have HU3 : Hid (∀ O : List Int, oput g.os = (O, 0) → ¬ 1480 < 20 + O.length + g.data.length → tput s d g = (g.lay O (g.field s d O), 0)) := fun O h => tput_fit h
  obtain ⟨sp, dp, seq, ack, f, win, urg, os, data⟩ := g
  obtain ⟨gsp, gdp, gseq, gack, gf, gwin, gurg, gos, gdata⟩ := hg
  dsimp only at *
  obtain ⟨ad, cd, rfl, hd1, hd2, -⟩ := id hvd
  unfold maxLen at hd2
  obtain ⟨ao, co, rfl⟩ := hvo.shape
  have hob := oput_byt gos
  have hol := oput_len os
  have HO := fun (w : World) (h : RdO w _ os) => oput_any (.slice ao os.length co) os w h gos
  generalize hoe : oput os = OE at *
  obtain ⟨O, E⟩ := OE
  dsimp only at hob hol HO
  have HOB := Lib.hid hob
  have HGD := Lib.hid gdata
  have HGO := Lib.hid gos
  clear hob gdata gos
  have HE := Lib.hid hoe
  clear hoe
  by_cases hE : ¬ E = 0
  · have hE' : (E != 0) = true := by simpa using hE
    have HU := Lib.hid (HU1.out O E rfl hE)
    clear hE
    go_enter Tryz.func33, Tryz.ntmps33
    go_wp2_with fail
    refine (HO _ (hvo.ext (Ext.new _ _))).mono ?_
    rintro e w1 ⟨u1, rfl, hu1, hx1⟩
    go_wp2_with fail
    go_ret2
    rw [HU.out]
    exact ⟨_, rfl, Own.nil _ _ _ _, (Ext.new w _).tr hx1⟩
  have hE0 : E = 0 := Classical.not_not.1 hE
  clear hE
  subst hE0
  by_cases hlong : 1480 < 20 + O.length + data.length
  · have hl : (1480 : Int) < 20 + (O.length : Int) + (data.length : Int) := by omega
    have HU := Lib.hid (HU2.out O rfl hlong)
    clear hlong
    go_enter Tryz.func33, Tryz.ntmps33
    go_wp2_with fail
    refine (HO _ (hvo.ext (Ext.new _ _))).mono ?_
    rintro e w1 ⟨u1, rfl, hu1, hx1⟩
    have kx := hx1.block (heap_alloc_new w _)
    have e8 := cell_blk kx 8
    simp at e8
    obtain ⟨a1, c1, rfl, hc1, hc2, -⟩ := id hu1.rd
    go_wp2_with fail
    go_ret2
    rw [HU.out]
    exact ⟨_, rfl, Own.nil _ _ _ _, (Ext.new w _).tr hx1⟩
  have hl : ¬ (1480 : Int) < 20 + (O.length : Int) + (data.length : Int) := by omega
  have HU := Lib.hid (HU3.out O rfl hlong)
  clear hlong HU1 HU2 HU3
  go_enter Tryz.func33, Tryz.ntmps33
  go_wp2_with fail
  refine (HO _ (hvo.ext (Ext.new _ _))).mono ?_
  rintro e w1 ⟨u1, rfl, hu1, hx1⟩
  have kx := hx1.block (heap_alloc_new w _)
  have hx : Ext w w1 := (Ext.new w _).tr hx1
  have hws : w.heap.size < w1.heap.size := by have := hx1.size; simp at this; omega
  obtain ⟨a1, c1, rfl, hc1, hc2, -⟩ := id hu1.rd
  have hur := hu1.rd
  have e0 := cell_blk kx 0
  have e8 := cell_blk kx 8
  simp at e0 e8
  clear hu1 hx1 HO
  go_wp2_with fail
  generalize hW : w1.alloc _ = W
  have kb : W.heap[w1.heap.size]? = some (.cells #[.slice none 0 0] 24) := by rw [← hW]; exact heap_alloc_new w1 _
  have kb0 := kb
  have hx1W : Ext w1 W := by rw [← hW]; exact Ext.new _ _
  have kx := hx1W.block kx
  have kxW := kx
  have hm := Mvs.refl (fun k => k = w1.heap.size) W
  have hv := Rd.nil .u8 W
  have hbase : w.heap.size ≤ W.heap.size := by have := hx1W.size; omega
  clear hW
  generalize hBb : w1.heap.size = Bb at *
  generalize hBs : w.heap.size = Bs at *
  have hsz := hm.size
  refine (two_any sp Bb _ [] _ kb hv (Nat.le_of_ble_eq_true rfl) gsp).mono ?_
  rintro e wn ⟨u, rfl, kb, ho, hmv⟩
  have kx := hmv.keep kx (by omega)
  have hm := hm.tr hmv
  have hge : ∀ j, u.ownBlock = some j → W.heap.size ≤ j := fun j hj => Nat.le_trans hsz (ho.block j hj).1
  have ho := ho.low hbase
  clear hsz
  have hv := ho.rd
  have hbase := Nat.le_trans hbase hmv.size
  clear hmv
  have e1 := cell_blk kx 1
  simp at e1
  go_wp2_with fail
  have hsz := hm.size
  refine (two_any dp Bb _ ([] ++ by2 sp) _ kb hv (Nat.le_of_ble_eq_true rfl) gdp).mono ?_
  rintro e wn ⟨u, rfl, kb, ho, hmv⟩
  have kx := hmv.keep kx (by omega)
  have hm := hm.tr hmv
  have hge : ∀ j, u.ownBlock = some j → W.heap.size ≤ j := fun j hj => Nat.le_trans hsz (ho.block j hj).1
  have ho := ho.low hbase
  clear hsz
  have hv := ho.rd
  have hbase := Nat.le_trans hbase hmv.size
  clear hmv
  have e2 := cell_blk kx 2
  simp at e2
  go_wp2_with fail
  have hsz := hm.size
  refine (four_any seq Bb _ ([] ++ by2 sp ++ by2 dp) _ kb hv (Nat.le_of_ble_eq_true rfl) gseq).mono ?_
  rintro e wn ⟨u, rfl, kb, ho, hmv⟩
  have kx := hmv.keep kx (by omega)
  have hm := hm.tr hmv
  have hge : ∀ j, u.ownBlock = some j → W.heap.size ≤ j := fun j hj => Nat.le_trans hsz (ho.block j hj).1
  have ho := ho.low hbase
  clear hsz
  have hv := ho.rd
  have hbase := Nat.le_trans hbase hmv.size
  clear hmv
  have e3 := cell_blk kx 3
  simp at e3
  go_wp2_with fail
  have hsz := hm.size
  refine (four_any ack Bb _ ([] ++ by2 sp ++ by2 dp ++ by4 seq) _ kb hv (Nat.le_of_ble_eq_true rfl) gack).mono ?_
  rintro e wn ⟨u, rfl, kb, ho, hmv⟩
  have kx := hmv.keep kx (by omega)
  have hm := hm.tr hmv
  have hge : ∀ j, u.ownBlock = some j → W.heap.size ≤ j := fun j hj => Nat.le_trans hsz (ho.block j hj).1
  have ho := ho.low hbase
  clear hsz
  have hv := ho.rd
  have hbase := Nat.le_trans hbase hmv.size
  clear hmv
  have e4 := cell_blk kx 4
  simp at e4
  obtain ⟨au, cu, hue, -, -, -⟩ := id hv
  rw [show (([] : List Int) ++ by2 sp ++ by2 dp ++ by4 seq ++ by4 ack).length = 12 from rfl] at hue
  subst hue
  have eb := cell_blk kb 0
  simp at eb
  have fb := fz_blk kb
  have eq1 : ((20 : Int) + O.length).tdiv 4 = (20 + O.length) / 4 := Int.tdiv_eq_ediv_of_nonneg (by omega)
  have eq2 := quo4 (20 + (O.length : Int)) (by omega)
  have hBW : Bb < W.heap.size := by have := lt_of_block kb0; omega
  have hne : Value.ownBlock (.slice au 12 cu) ≠ some Bb := fun he => by have := hge _ he; omega
  have hBn := lt_of_block kb
  go_upto_region 14 with (at_builtin; go_must (refine wpList_app isU8 rfl (.tmp 50) (.tmp 59) rfl Bs (.slice au 12 cu) _ rfl (ho.kept (Ext.new _ _)) _ [(20 + (O.length : Int)) / 4 * 16, f] rfl (rd_new .u8 _ _ _ _ rfl rfl rfl rfl (by simp [maxLen])) (by simp [by2, by4]) (by simp [by2, by4, maxLen]) (Nat.le_trans hbase (Ext.new _ _).size) ?_); intro v2 w2 hown2 hg2 hat2; obtain ⟨a2, n2, c2, rfl⟩ := hown2.rd.shape; have kb2 := (hg2.block Bb (by simp; omega) (fun e => hne e.symm)).trans (Ext.block (Ext.new _ _) kb); have eb2 := cell_blk kb2 0; simp at eb2; have fb2 := fz_blk kb2 0)
  have hne2 : Value.ownBlock (.slice a2 n2 c2) ≠ some Bb := at_ne hat2 hne (by simp; omega)
  have kb := set_blk kb2 0 (.slice a2 n2 c2)
  simp at kb
  have ho := hown2.other (a := ⟨Bb, 0, none⟩) hne2 (.slice a2 n2 c2)
  have hm := (Mvs.grown (hm.tr (Mvs.ofExt (Ext.new _ _))) hg2 hge).tr (Mvs.set (S := fun k => k = Bb) w2 ⟨Bb, 0, none⟩ (.slice a2 n2 c2) rfl)
  have hbase : Bs ≤ (w2.setCell ⟨Bb, 0, none⟩ (.slice a2 n2 c2)).heap.size := by have := hm.size; omega
  have kx := hm.keep kxW (by omega)
  have hv := ho.rd
  clear hown2 hg2 hat2 kb2 eb2 fb2 hne2 hge hne
  generalize w2.setCell ⟨Bb, 0, none⟩ (.slice a2 n2 c2) = w3 at *
  have e5 := cell_blk kx 5
  simp at e5
  go_wp2_with fail
  have hsz := hm.size
  refine (two_any win Bb _ ([] ++ by2 sp ++ by2 dp ++ by4 seq ++ by4 ack ++ [(20 + (O.length : Int)) / 4 * 16, f]) _ kb hv (Nat.le_of_ble_eq_true rfl) gwin).mono ?_
  rintro e wn ⟨u, rfl, kb, ho, hmv⟩
  have kx := hmv.keep kx (by omega)
  have hm := hm.tr hmv
  have hge : ∀ j, u.ownBlock = some j → W.heap.size ≤ j := fun j hj => Nat.le_trans hsz (ho.block j hj).1
  have ho := ho.low hbase
  clear hsz
  have hv := ho.rd
  have hbase := Nat.le_trans hbase hmv.size
  clear hmv
  go_wp2_with fail
  have hsz := hm.size
  refine (two_any 0 Bb _ ([] ++ by2 sp ++ by2 dp ++ by4 seq ++ by4 ack ++ [(20 + (O.length : Int)) / 4 * 16, f] ++ by2 win) _ kb hv (Nat.le_of_ble_eq_true rfl) (by omega)).mono ?_
  rintro e wn ⟨u, rfl, kb, ho, hmv⟩
  have kx := hmv.keep kx (by omega)
  have hm := hm.tr hmv
  have hge : ∀ j, u.ownBlock = some j → W.heap.size ≤ j := fun j hj => Nat.le_trans hsz (ho.block j hj).1
  have ho := ho.low hbase
  clear hsz
  have hv := ho.rd
  have hbase := Nat.le_trans hbase hmv.size
  clear hmv
  have e6 := cell_blk kx 6
  simp at e6
  go_wp2_with fail
  have hsz := hm.size
  refine (two_any urg Bb _ ([] ++ by2 sp ++ by2 dp ++ by4 seq ++ by4 ack ++ [(20 + (O.length : Int)) / 4 * 16, f] ++ by2 win ++ by2 0) _ kb hv (Nat.le_of_ble_eq_true rfl) gurg).mono ?_
  rintro e wn ⟨u, rfl, kb, ho, hmv⟩
  have kx := hmv.keep kx (by omega)
  have hm := hm.tr hmv
  have hge : ∀ j, u.ownBlock = some j → W.heap.size ≤ j := fun j hj => Nat.le_trans hsz (ho.block j hj).1
  have ho := ho.low hbase
  clear hsz
  have hv := ho.rd
  have hbase := Nat.le_trans hbase hmv.size
  clear hmv
  obtain ⟨a5, c5, hue, -, -, -⟩ := id hv
  rw [show (([] : List Int) ++ by2 sp ++ by2 dp ++ by4 seq ++ by4 ack ++ [(20 + (O.length : Int)) / 4 * 16, f] ++ by2 win ++ by2 0 ++ by2 urg).length = 20 from rfl] at hue
  subst hue
  have hL : Hid (([] : List Int) ++ by2 sp ++ by2 dp ++ by4 seq ++ by4 ack ++ [(20 + (O.length : Int)) / 4 * 16, f] ++ by2 win ++ by2 0 ++ by2 urg = _) := rfl
  have hLl : (([] : List Int) ++ by2 sp ++ by2 dp ++ by4 seq ++ by4 ack ++ [(20 + (O.length : Int)) / 4 * 16, f] ++ by2 win ++ by2 0 ++ by2 urg).length = 20 := rfl
  generalize hLx : (([] : List Int) ++ by2 sp ++ by2 dp ++ by4 seq ++ by4 ack ++ [(20 + (O.length : Int)) / 4 * 16, f] ++ by2 win ++ by2 0 ++ by2 urg) = L at *
  have hLx := Lib.hid hLx
  have hLl := Lib.hid hLl
  clear hL
  go_upto_region 17 with (fail)
  have hx1n : Ext w1 wn := hm.ext hx1W (fun k hk => by omega)
  have hneB : Value.ownBlock (.slice a5 20 c5) ≠ some Bb := fun he => by have := hge _ he; omega
  have hneS : Value.ownBlock (.slice a5 20 c5) ≠ some Bs := fun he => by have := hge _ he; omega
  have hge1 : ∀ k, Value.ownBlock (.slice a5 20 c5) = some k → w1.heap.size ≤ k := fun k hk => by have := hge k hk; omega
  clear hv e0 e8 hx1W kxW kb0 eq1 eq2
  have hLn : L.length = 20 := hLl.out
  have hNb : 20 + O.length + data.length ≤ 1480 := by omega
  clear hl
  have hBwn := lt_of_block kb
  have hWwn := hm.size
  refine LooseT.wp_region_tailR 5 (Grw Bs (.slice a5 20 c5) L) (LooseT.tk [(2, Grw Bs (.slice a5 20 c5) L)]) [(2, fun u w' => Own w' Bs 5 .u8 u (L ++ O) ∧ ∀ j, u.ownBlock = some j → W.heap.size ≤ j)] (Grw.refl _ _ _ _) (Grw.ofExt (Ext.draw _)) ?_ ?_ (by kernel_rfl) (by kernel_rfl) (by kernel_rfl) ?_
  · intro k a b c h1 h2
    simp only [LooseT.tk] at h2
    split at h2
    · exact h1.tr h2
    · exact h1.tr (Grw.ofExt h2)
  · refine LooseT.lastsT_cons (fun j v w1 w2 hj h hs => ?_) LooseT.lastsT_nil
    simp only [LooseT.tk] at h
    rw [if_neg hj] at h
    exact ⟨hs.1.kept h, hs.2⟩
  simp only [List.take, List.drop]
  apply LooseT.wpL_none rfl rfl
  · intro w' hw' hn'; have q := cell_blk (Mvs.keep hw'.1 kb hneB) 0; simp at q; go_simp; exact rfl
  intro K hK; go_simp; refine hK _ _ ?_; clear hK K
  apply LooseT.wpL_none rfl rfl
  · intro w' hw' hn'; go_simp; exact rfl
  intro K hK; go_simp; refine hK _ _ ?_; clear hK K
  apply LooseT.wpL_some rfl rfl
  · intro w' hw' hn'
    refine upon_app_own isU8 (.tmp 71) (.tmp 72) (by rfl) Bs (.slice a5 20 c5) L (by rfl) (hw'.2 ho) (.slice a1 O.length c1) O (by rfl) (hur.ext (hw'.1.ext hx1n hge1)) (by omega) (by unfold maxLen; omega) (Nat.le_trans hbase hw'.1.size) (fun v' w'' q1 q2 q3 q4 => ⟨⟨mvs_of_grown q2, fun _ => q4⟩, q1, at_ge q3 hge (Nat.le_trans hWwn hw'.1.size)⟩)
  intro v7 w' hw' hD' hv7
  clear hw' hD' w' hv7
  intro K hK; go_simp; refine hK _ _ ?_; clear hK K
  apply LooseT.wpL_none rfl rfl
  · intro w' hw' hn'; go_simp; exact rfl
  intro K hK; go_simp; refine hK _ _ ?_; clear hK K
  apply LooseT.wpL_none rfl rfl
  · intro w' hw' hn'; have q := cell_blk (Mvs.keep hw'.1 kx hneS) 8; simp at q; go_simp; exact rfl
  intro K hK; go_simp; refine hK _ _ ?_; clear hK K
  refine LooseT.wpL_nil ?_
  intro w' hw' hD'
  have hv7 := hD' 2
  simp [Loose.upd] at hv7
  obtain ⟨hv7, hge7⟩ := hv7
  have hxw' : Ext w1 w' := hw'.1.ext hx1n hge1
  have kb' := hw'.1.keep kb hneB
  have hW' := Nat.le_trans hWwn hw'.1.size
  apply wpVL_step rfl
  intro K hK
  refine vupon_app isU8 (.tmp 73) (.tmp 75) (by rfl) Bs v7 _ (by rfl) hv7 (.slice ad data.length cd) data (by rfl) (hvd.ext (hx.tr hxw')) (by simp; omega) (by simp [maxLen]; omega) (Nat.le_trans hbase hw'.1.size) (fun v8 w'' q1 q2 q3 => ?_)
  have hx2 : Ext w1 w'' := (Mvs.grown (S := fun _ => False) (Mvs.ofExt hxw') q2 (fun j hj => by have := hge7 j hj; omega)).ext (Ext.rfl' _) (fun k hk => hk.elim)
  have hne7 : v7.ownBlock ≠ some Bb := fun he => by have := hge7 _ he; omega
  have kb2 := (q2.block Bb (lt_of_block kb') (fun e => hne7 e.symm)).trans kb'
  have hge8 := at_ge q3 hge7 hW'
  refine hK _ _ ?_
  clear hK K hw' hD' hv7 hge7 q2 q3 hne7 kb' hxw' kb kx ho hm hge hge1 hneB hneS hx1n
  obtain ⟨g, c8, rfl, hg1, hg2, hgc, hgf, hc8, hcm8, -⟩ := q1.open (by simp; omega)
  have hN : (L ++ O ++ data).length = 20 + O.length + data.length := by simp; omega
  simp only [hN] at hc8 ⊢
  generalize hNN : 20 + O.length + data.length = N at *
  have eb := cell_blk kb2 0
  simp at eb
  have fb := fz_blk kb2 0
  apply wpVL_step rfl
  intro K hK
  go_simp
  refine hK _ _ ?_
  clear hK K
  refine wpVL_nil ?_
  have hgB : g ≠ Bb := fun e => by have := hge8 g (by simp [Value.ownBlock]); omega
  have hgW : W.heap.size ≤ g := hge8 g (by simp [Value.ownBlock])
  have kb := set_blk kb2 0 (.slice (some ⟨g, 0, none⟩) N c8)
  simp at kb
  have ho := q1.other (a := ⟨Bb, 0, none⟩) (by simp [Value.ownBlock]; omega) (.slice (some ⟨g, 0, none⟩) N c8)
  have hx6 : Ext w1 (w''.setCell ⟨Bb, 0, none⟩ (.slice (some ⟨g, 0, none⟩) N c8)) := Below.setCell hx2 (by dsimp only; omega) _
  clear q1 kb2 eb fb hx2 hge8 hgf hgc hN
  generalize w''.setCell ⟨Bb, 0, none⟩ (.slice (some ⟨g, 0, none⟩) N c8) = w6 at *
  have hML : Hid (L ++ O ++ data = (Sg.mk sp dp seq ack f win urg os data).lay O 0) := by unfold Hid; rw [← hLx.out]; rfl
  have hMl : (L ++ O ++ data).length = N := by rw [hML.out, lay_len]; exact hNN
  have hMb : Byt (L ++ O ++ data) := by rw [hML.out]; exact lay_byt ⟨gsp, gdp, gseq, gack, gf, gwin, gurg, HGO.out, HGD.out⟩ HOB.out hol.1 (by omega)
  have hFd : Hid (65535 - csum (pseu s d 6 N ++ (L ++ O ++ data)) = (Sg.mk sp dp seq ack f win urg os data).field s d O) := by
    unfold Hid Sg.field
    rw [← hML.out, ← hNN]
    simp
  have hfin : Hid (∀ F : Int, (L ++ O ++ data).take 16 ++ by2 F ++ (L ++ O ++ data).drop 18 = (Sg.mk sp dp seq ack f win urg os data).lay O F) := by intro F; rw [← hLx.out]; rfl
  have hcs : 0 ≤ csum (pseu s d 6 N ++ (L ++ O ++ data)) ∧ csum (pseu s d 6 N ++ (L ++ O ++ data)) ≤ 65535 := csum_bd ((pseu_byt _ hs hd (by omega)).app hMb)
  rw [hMl] at ho
  have hMr := ho.rd
  have hN20 : 20 ≤ N ∧ N ≤ 1480 := by omega
  generalize hMx : L ++ O ++ data = M at *
  have HMB := Lib.hid hMb
  have HML := Lib.hid hMl
  generalize hcx : csum (pseu s d 6 N ++ M) = C at *
  have hcx := Lib.hid hcx
  clear hMb hMl hML hMx hLn hNN hNb
  have eb := cell_blk kb 0
  simp at eb
  have hN16 : (16 : Int) ≤ (N : Int) := by omega
  have hc16 : ¬ (c8 = 16) := by omega
  go_upto_region 18 with (fail)
  refine wp_region_tail 11 [(6, fun v w => Rd .u8 w v (pseu s d 6 N)), (8, fun v w => Rds .u8 w v [pseu s d 6 N, M]), (9, is (.int .u16 (65535 - C))), (10, fun v w => Rd .u8 w v (by2 (65535 - C)))] ?_ (by kernel_rfl) (by kernel_rfl) (by kernel_rfl) ?_
  · exact lasts_cons (fun _ _ _ hx h => Rd.ext h hx) (lasts_cons (fun _ _ _ hx h => Rds.ext h hx) (lasts_is (lasts_cons (fun _ _ _ hx h => Rd.ext h hx) lasts_nil)))
  simp only [List.take, List.drop]
  iterate 1
    apply wpL_none rfl rfl
    · intro w' hw' hn'; have eb := Ext.cell hw' eb; go_simp; exact rfl
    intro K hK; go_simp; refine hK _ _ ?_; clear hK K
  iterate 1
    apply wpL_none rfl rfl
    · intro w' hw' hn'; go_simp; exact rfl
    intro K hK; go_simp; refine hK _ _ ?_; clear hK K
  iterate 2
    apply wpL_none rfl rfl
    · intro w' hw' hn'; go_simp; exact rfl
    intro K hK; go_simp; refine hK _ _ ?_; clear hK K
  iterate 1
    apply wpL_none rfl rfl
    · intro w' hw' hn'; have eb := Ext.cell hw' eb; go_simp; exact rfl
    intro K hK; go_simp; refine hK _ _ ?_; clear hK K
  iterate 1
    apply wpL_none rfl rfl
    · intro w' hw' hn'; go_simp; exact rfl
    intro K hK; go_simp; refine hK _ _ ?_; clear hK K
  apply wpL_some rfl rfl
  · intro w' hw' hn'
    go_simp
    refine ⟨Ext.rfl' _, ?_⟩
    refine (pseudo_any s d 6 _ _ hs hd (by omega)).mono ?_
    rintro e w2 ⟨u, rfl, ho, hx⟩
    exact ⟨u, rfl, hx, ho.rd⟩
  intro v w' hw' hD' hv
  obtain ⟨av, nv, cv, rfl⟩ := hv.shape
  clear hv hw' hD' w'
  intro K hK; go_simp; refine hK _ _ ?_; clear hK K
  iterate 1
    apply wpL_none rfl rfl
    · intro w' hw' hn'; have eb := Ext.cell hw' eb; go_simp; exact rfl
    intro K hK; go_simp; refine hK _ _ ?_; clear hK K
  apply wpL_some rfl rfl
  · intro w' hw' hn'
    have hr : Rd .u8 w' (.slice av nv cv) (pseu s d 6 N) := hn' ⟨6, .data⟩ (by simp) rfl
    go_simp
    exact ⟨Ext.new _ _, rds_two hr (hMr.ext hw') rfl⟩
  intro b2 w' hw' hD' hv
  clear hv hw' hD' w'
  intro K hK; go_simp; refine hK _ _ ?_; clear hK K
  apply wpL_some rfl rfl
  · intro w' hw' hn'
    have hr : Rds .u8 w' b2 [pseu s d 6 N, M] := hn' ⟨8, .data⟩ (by simp) rfl
    go_simp
    refine ⟨Ext.rfl' _, ?_⟩
    refine (field_any _ _ _ hr ?_ ?_).mono ?_
    · intro x hx
      simp only [List.mem_cons, List.not_mem_nil, or_false] at hx
      rcases hx with rfl | rfl
      · exact pseu_byt _ hs hd (by omega)
      · exact HMB.out
    · have := HML.out
      have := pseu_len s d 6 N
      simp only [List.flatten_cons, List.flatten_nil, List.append_nil, List.length_append]
      omega
    rw [show [pseu s d 6 (N : Int), M].flatten = pseu s d 6 N ++ M from by simp, hcx.out]
    rintro e w2 ⟨rfl, hx⟩
    exact ⟨_, rfl, hx, by simp [Loose.is]⟩
  intro v w' hw' hD' hv
  obtain rfl : v = _ := hv
  clear hw' hD' w'
  intro K hK; go_simp; refine hK _ _ ?_; clear hK K
  apply wpL_some rfl rfl
  · intro w' hw' hn'
    go_simp
    refine ⟨Ext.rfl' _, ?_⟩
    refine (wu16_any _ [] (65535 - C) _ (Rd.nil _ _) (by simp) (by omega)).mono ?_
    rintro e w2 ⟨u, rfl, ho, hx⟩
    exact ⟨u, rfl, hx, ho.rd⟩
  intro v10 w' hw' hD' hv
  clear hv hw' hD' w'
  intro K hK; go_simp; refine hK _ _ ?_; clear hK K
  refine wpL_nil ?_
  intro w' hw' hD'
  have hr : Rd .u8 w' v10 (by2 (65535 - C)) := by have := hD' 10; simpa [Loose.upd] using this
  have eb' := cell_blk (Ext.block hw' kb) 0
  simp at eb'
  apply wpVL_step rfl
  intro K hK
  refine vupon_copy isU8 (.tmp 78) (.tmp 87) (by rfl) Bs g N c8 M (ho.kept hw') 16 (N - 16) (c8 - 16) (by rfl) v10 _ (by rfl) hr (by simp [by2]) (by simp [by2]; omega) (by have := HML.out; omega) (fun v11 w8 q1 q2 => ?_)
  have kb8 := q2.keep (Ext.block hw' kb) (fun e => hgB e.symm)
  have hx8 : Ext w1 w8 := (q2.mono (S' := fun j => j = g) (fun _ _ h => h)).ext (Ext.tr hx6 hw') (fun j hj => by omega)
  refine hK _ _ ?_
  clear hK K hD' hw' hr q2 kb eb eb'
  refine wpVL_nil ?_
  rw [show (by2 (65535 - C)).length = 2 from rfl, hfin.out, hFd.out] at q1
  have eb := cell_blk kb8 0
  simp at eb
  go_wp2_with fail
  go_ret2
  rw [HU.out]
  refine ⟨_, rfl, ?_, hx.tr hx8⟩
  rw [hBs]
  exact q1
end Go.Proofs.YtbaidlkjbdeceaaGreat

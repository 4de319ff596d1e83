/-
  Proved here: that chapter 28's wakes answers true.
-/
import Derived.Test.YtgknjokjpaodlaaDoorPlainK
import Derived.Test.YtgknjokjpaodlaaDoorRegion
namespace Go.Proofs.YtgknjokjpaodlaaDoor
open Go.ChangeShapes Go.WideShapes Go.ChangeAt Go.RowKit Go.Cul Go.Loose
set_option linter.unusedVariables false
attribute [local go_sem] Loose.Still Loose.Upon Loose.vUpon

def pkP (proto q k f win : Int) (a : Option Addr) (n c : Nat) : Pk := ⟨.int .u8 0, .int .u16 0, .bool false, .int .u8 0, proto, .int .u32 0, .int .u32 0, .slice none 0 0, .int .u16 0, .int .u16 0, q, k, f, win, .int .u16 0, .slice none 0 0, a, n, c, .int .u16 0, .int .u16 0, .slice none 0 0, .int .u8 0, .int .u8 0, .int .u32 0, .slice none 0 0⟩

theorem take_c (proto q k f win : Int) (a : Option Addr) (n c : Nat) (m m' : Fl) (ins : Bool) (now : Int) (b : Nat) (w : World) (h : At w b m) (he : takeE m (pkP proto q k f win a n c) = 0) (hm : m.ok) (hp : (pkP proto q k f win a n c).ok)
    (hM : takeM m (pkP proto q k f win a n c) ins now = m') :
    Calls Tryd.prog 10 #[fp b, .agg (pkC proto q k f win (.slice a n c)), .bool ins, .int .u64 now] w fun e w' => e = .returned (.int .i64 0) ∧ At w' b m' ∧ Mvs (fun j => j = b) w w' := by
  subst hM
  exact take_any b m _ ins now w h he hm hp

/-- The seven packets of wakes. -/
def wakP : Nat → Pk
  | 0 => pkP 6 10 0 2 0 none 0 0
  | 1 => pkP 6 20 11 18 0 none 0 0
  | 2 => pkP 6 11 21 16 0 none 0 0
  | 3 => pkP 6 11 21 17 0 none 0 0
  | 4 => pkP 6 21 12 16 0 none 0 0
  | 5 => pkP 6 21 12 17 0 none 0 0
  | _ => pkP 6 12 22 16 0 none 0 0
def wakI : List Bool := [true, false, true, true, false, false, true]
def wakS : List Int := [1, 2, 3, 4, 4, 4, 5]
def wakF : Nat → Fl
  | 0 => flNew 80 5 6 0
  | i + 1 => takeM (wakF i) (wakP i) (wakI.getD i false) i
def wakC : Array Value := (((List.range 7).map fun i => (wakP i).cells.toList).flatten).toArray

theorem flat_get {α : Type} {n : Nat} : ∀ (L : List (List α)) (i : Nat) (e : List α) (j : Nat) (v : α), (∀ x ∈ L, x.length = n) → L[i]? = some e → e[j]? = some v → L.flatten[i * n + j]? = some v
  | [], i, e, j, v, _, h, _ => by simp at h
  | x :: L, 0, e, j, v, hn, h, hv => by
    obtain rfl : x = e := by simpa using h
    have : j < x.length := (List.getElem?_eq_some_iff.1 hv).1
    rw [List.flatten_cons, List.getElem?_append_left (by omega), Nat.zero_mul, Nat.zero_add]
    exact hv
  | x :: L, i + 1, e, j, v, hn, h, hv => by
    have hx := hn x (List.mem_cons_self ..)
    rw [List.flatten_cons, List.getElem?_append_right (by rw [hx, Nat.succ_mul]; omega), hx, Nat.succ_mul, show i * n + n + j - n = i * n + j by omega]
    exact flat_get L i e j v (fun y hy => hn y (List.mem_cons_of_mem _ hy)) (by simpa using h) hv

theorem wak_range {w : World} {g : Nat} {t : TypeId} (h : w.heap[g]? = some (.cells wakC t)) (i : Nat) (hi : i < 7) : w.rangeAt g (i * 24) (wakP i).cells.toList := by
  intro j v hv
  rw [cell_blk h]
  simp only [wakC, List.getElem?_toArray]
  refine flat_get _ i (wakP i).cells.toList j v ?_ (by simp [hi]) hv
  intro x hx
  obtain ⟨k, _, rfl⟩ := List.mem_map.1 hx
  simp [Pk.cells]

def Fl.okB (f : Fl) : Bool := decide (((0 ≤ f.o.acked ∧ f.o.acked ≤ 4294967295) ∧ (0 ≤ f.o.behind ∧ f.o.behind ≤ 4294967295) ∧ (0 ≤ f.o.win ∧ f.o.win ≤ 65535)) ∧ ((0 ≤ f.i.acked ∧ f.i.acked ≤ 4294967295) ∧ (0 ≤ f.i.behind ∧ f.i.behind ≤ 4294967295) ∧ (0 ≤ f.i.win ∧ f.i.win ≤ 65535)))
theorem Fl.ok_of {f : Fl} (h : f.okB = true) : f.ok := by
  unfold Fl.ok Sd.ok
  exact of_decide_eq_true h
def Pk.okB (p : Pk) : Bool := decide ((0 ≤ p.f ∧ p.f ≤ 255) ∧ (0 ≤ p.q ∧ p.q ≤ 4294967295) ∧ (0 ≤ p.k ∧ p.k ≤ 4294967295) ∧ (0 ≤ p.win ∧ p.win ≤ 65535))
theorem Pk.ok_of {p : Pk} (h : p.okB = true) : p.ok := by
  unfold Pk.ok
  exact of_decide_eq_true h

theorem wak_all : ∀ i, i < 7 → takeE (wakF i) (wakP i) = 0 ∧ (wakF i).okB = true ∧ (wakP i).okB = true ∧ stM (wakF (i + 1)) = wakS.getD i 0 := by decide +kernel
def udpP : Pk := pkP 17 0 0 0 0 none 0 0
def udp1 : Fl := takeM (flNew 80 5 17 0) udpP true 3
def udp2 : Fl := takeM udp1 udpP false 9
theorem wak_udp : takeE (flNew 80 5 17 0) udpP = 0 ∧ takeE udp1 udpP = 0 ∧ stM udp1 = 1 ∧ alM udp1 = 13 ∧ stM udp2 = 3 ∧ alM udp2 = 89 ∧ (flNew 80 5 17 0).okB = true ∧ udp1.okB = true ∧ udpP.okB = true ∧ (0 ≤ udp1.idle ∧ udp1.idle ≤ 18446744073709551615) ∧ (0 ≤ udp2.idle ∧ udp2.idle ≤ 18446744073709551615) := by decide +kernel

theorem wakC_one : wakC.all (·.oneCell') = true := by decide +kernel
theorem wakC_size : wakC.size = 168 := by decide +kernel

def zerC : Array Value := ((List.replicate 7 (pkC 0 0 0 0 0 (.slice none 0 0)).toList).flatten).toArray
theorem zerC_zero : ∀ w, Sem.run Tryd.prog (zeroValue 71) w = .ok (.agg zerC) w := (zero_of_info (n := 168) (by kernel_rfl)).1
theorem zerC_size : zerC.size = 168 := by decide +kernel

set_option maxHeartbeats 2000000 in
set_option maxRecDepth 100000 in
theorem wakes_any (w : World) (hK : Kn w) : Calls Tryd.prog 12 #[] w fun e w' => e = .returned (.bool true) ∧ Ext w w' := by
  go_enter Tryd.func12, Tryd.ntmps12
  go_wp2_with fail
  refine (config_any _).mono ?_
  rintro e w1 ⟨rfl, hx1⟩
  go_wp2_with fail
  refine (open_any 80 5 6 0 _ (hK.ext hx1) rfl (by decide)).mono ?_
  rintro e w2 ⟨b, rfl, hb, h, hx2⟩
  have hx2 := hx1.tr hx2
  go_wp2_with fail
  refine (state_any b _ _ h).mono ?_
  rw [show stM (flNew 80 5 6 0) = 1 from by decide +kernel]
  rintro e w3 ⟨rfl, hx3⟩
  have h := hx3.block h
  have hx3 := hx2.tr hx3
  go_wp2_with fail
  have hz := zerC_zero
  iterate 7
    refine (lsegment_any _ _ _ _).mono ?_
    rintro e w4 ⟨rfl, hx4⟩
    have h := hx4.block h
    have hx3 := hx3.tr hx4
    go_wp2_with (first | (refine wpList_build_big 71 wakC _ rfl (by kernel_rfl) ?_) | (refine wpList_store_big 71 wakC rfl rfl (by kernel_rfl) (zerC_size.trans wakC_size.symm) wakC_one ?_))
  generalize hW : ((w4.alloc _).alloc _).alloc _ = W
  have kp : W.heap[w4.heap.size]? = some (.cells wakC 71) := by rw [← hW]; simp only [heap_alloc_at, World.size_alloc]; repeat (first | rfl | rw [if_pos (by first | trivial | omega)] | rw [if_neg (by omega)])
  have ks : W.heap[w4.heap.size + 1]? = some (.cells (wakS.map (Value.int .i64)).toArray 72) := by rw [← hW]; simp only [heap_alloc_at, World.size_alloc]; repeat (first | rfl | rw [if_pos (by first | trivial | omega)] | rw [if_neg (by omega)])
  have ki : W.heap[w4.heap.size + 1 + 1]? = some (.cells (wakI.map Value.bool).toArray 73) := by rw [← hW]; simp only [heap_alloc_at, World.size_alloc]; repeat (first | rfl | rw [if_pos (by first | trivial | omega)] | rw [if_neg (by omega)])
  have hxW : Ext w W := by rw [← hW]; exact ((hx3.al _).al _).al _
  have hW0 : At W b (wakF 0) := by rw [← hW]; exact (((Ext.new w4 _).al _).al _).block h
  have hbw : w.heap.size ≤ b := Nat.le_trans hx1.size hb
  have hb4 : b < w4.heap.size := lt_of_block h
  clear hW hz
  generalize w4.heap.size = g at *
  clear h hx3 hx4
  go_loopw [6] (fun iv wr => ∃ i : Nat, i ≤ 7 ∧ iv = .int .i64 i ∧ At wr b (wakF i) ∧ Mvs (fun j => j = b) W wr) (fun iv _ => 7 - (intOf iv).toNat)
  case atStart => exact ⟨0, by omega, rfl, hW0, Mvs.refl _ _⟩
  case round =>
    obtain ⟨i, hi, rfl, h, hm⟩ := hrel
    have kp := hm.keep kp (by omega)
    have ks0 := ks
    have ks := hm.keep ks (by omega)
    have ki := hm.keep ki (by omega)
    by_cases hlt : i < 7
    · obtain ⟨hE, hO, hPo, hSt⟩ := wak_all i hlt
      have hrg := wak_range kp i hlt
      have hwi : IntKind.u64.wrap (i : Int) = (i : Int) := by rw [IntKind.wrap_u64]; omega
      have hT := fun (w : World) (h : At w b (wakF i)) => take_any b (wakF i) (wakP i) (wakI.getD i false) i w h hE (Fl.ok_of hO) (Pk.ok_of hPo)
      have hM : takeM (wakF i) (wakP i) (wakI.getD i false) i = wakF (i + 1) := rfl
      simp only [hM] at hT
      have hS := fun (w : World) (h : At w b (wakF (i + 1))) => state_any b _ w h
      simp only [hSt] at hS
      have cI : wr.cell? ⟨g + 1 + 1, i, none⟩ = some (.bool (wakI.getD i false)) := by
        rw [cell_blk ki]; simp [List.getD, show i < wakI.length from hlt]
      have cSW : W.cell? ⟨g + 1, i, none⟩ = some (.int .i64 (wakS.getD i 0)) := by
        rw [cell_blk ks0]; simp [List.getD, show i < wakS.length from hlt]
      have cS := cell_blk ks i
      have cS : wr.cell? ⟨g + 1, i, none⟩ = some (.int .i64 (wakS.getD i 0)) := by
        rw [cS]; simp [List.getD, show i < wakS.length from hlt]
      clear hM hE hO hPo hSt kp ki
      generalize wakI.getD i false = ins at *
      generalize wakS.getD i 0 = st at *
      generalize hF' : wakF (i + 1) = F' at *
      have HF := Lib.hid hF'
      clear hF'
      generalize wakF i = F at *
      generalize wakP i = p at *
      go_wp2_with fail
      refine wp_region_pivot 9 [] [(13, is (.int .i64 st))] _ rfl lasts_nil (lasts_is lasts_nil) (by kernel_rfl) (by kernel_rfl) (by kernel_rfl) ?_
      simp only [List.take, List.drop]
      iterate 3
        apply wpL_none rfl rfl
        · intro w' hw' hn'; go_simp; exact rfl
        intro K hK; go_simp; refine hK _ _ ?_; clear hK K
      apply wpL_none rfl rfl
      · intro w' hw' hn'
        exact still_load 46 (.tmp 37) rfl g (i * 24) rfl p.cells _ (range_ext hrg hw') Tryd.underlying46 rfl (by kernel_rfl)
      intro K hK; go_simp; refine hK _ _ ?_; clear hK K
      iterate 2
        apply wpL_none rfl rfl
        · intro w' hw' hn'; go_simp; exact rfl
        intro K hK; go_simp; refine hK _ _ ?_; clear hK K
      iterate 1
        apply wpL_none rfl rfl
        · intro w' hw' hn'; have cI := Ext.cell hw' cI; go_simp; exact rfl
        intro K hK; go_simp; refine hK _ _ ?_; clear hK K
      iterate 2
        apply wpL_none rfl rfl
        · intro w' hw' hn'; go_simp; exact rfl
        intro K hK; go_simp; refine hK _ _ ?_; clear hK K
      refine wpL_nil ?_
      intro w' hw' hD'
      have h5 := Ext.block hw' h
      refine wpPiv_call rfl ?_
      intro K hK
      go_simp
      refine (hT _ h5).mono ?_
      rintro e w5 ⟨rfl, h6, hm6⟩
      have hm6 := hm.tr ((Mvs.ofExt hw').tr hm6)
      refine ⟨_, rfl, hK _ _ ?_⟩
      clear hK K hD' hw' h5
      have cS : w5.cell? ⟨g + 1, i, none⟩ = some (.int .i64 st) := by rw [World.cell?_of_block (w := W) (hm6.block (g + 1) (lt_of_cell cSW) (by omega))]; exact cSW
      iterate 3
        apply wpL_none rfl rfl
        · intro w' hw' hn'; go_simp; exact rfl
        intro K hK; go_simp; refine hK _ _ ?_; clear hK K
      apply wpL_some rfl rfl
      · intro w' hw' hn'
        go_simp
        refine ⟨Ext.rfl' _, ?_⟩
        refine (hS _ (Ext.block hw' h6)).mono ?_
        rintro e w2 ⟨rfl, hx⟩
        exact ⟨_, rfl, hx, rfl⟩
      intro v w' hw' hD' hv
      obtain rfl : v = _ := hv
      clear hw' hD' w'
      intro K hK; go_simp; refine hK _ _ ?_; clear hK K
      iterate 2
        apply wpL_none rfl rfl
        · intro w' hw' hn'; go_simp; exact rfl
        intro K hK; go_simp; refine hK _ _ ?_; clear hK K
      iterate 1
        apply wpL_none rfl rfl
        · intro w' hw' hn'; have cS := Ext.cell hw' cS; go_simp; exact rfl
        intro K hK; go_simp; refine hK _ _ ?_; clear hK K
      iterate 2
        apply wpL_none rfl rfl
        · intro w' hw' hn'; go_simp; exact rfl
        intro K hK; go_simp; refine hK _ _ ?_; clear hK K
      refine wpL_nil ?_
      intro w6 hw6 hD6
      clear hD6
      have hm7 := hm6.tr (Mvs.ofExt hw6)
      have h7 := Ext.block hw6 h6
      go_wp2_with fail
      go_roundw
      case rel => exact ⟨i + 1, by omega, by go_num, by rw [HF.out]; exact h7, hm7⟩
      case measure => simp [intOf]; omega
    · have hxr : Ext w wr := hm.ext hxW (fun k hk => by omega)
      clear hm hi kp ks ks0 ki
      obtain ⟨q1, q2, q3, q4, q5, q6, q7, q8, q9, q10, q11⟩ := wak_udp
      go_wp2_with fail
      refine (config_any _).mono ?_
      rintro e w8 ⟨rfl, hx8⟩
      have hx8 := hxr.tr hx8
      go_wp2_with fail
      refine (open_any 80 5 17 0 _ (hK.ext hx8) rfl (by decide)).mono ?_
      rintro e w9 ⟨b2, rfl, hb2, h9, hx9⟩
      have hb2w : w.heap.size ≤ b2 := Nat.le_trans hx8.size hb2
      have hx9 := hx8.tr hx9
      go_upto_region 14 with (refine wpList_store_big 46 (pkC 17 0 0 0 0 (.slice none 0 0)) rfl rfl (by kernel_rfl) rfl (pk_one _ _ _ _ _ _ _ _) ?_)
      generalize hV : w9.alloc _ = V
      have kp : V.heap[w9.heap.size]? = some (.cells (pkC 17 0 0 0 0 (.slice none 0 0)) 46) := by rw [← hV]; exact heap_alloc_new w9 _
      have hv : At V b2 (flNew 80 5 17 0) := by rw [← hV]; exact (Ext.new w9 _).block h9
      have hxV : Ext w V := by rw [← hV]; exact hx9.al _
      have hb9 : w9.heap.size ≠ b2 := by have := lt_of_block h9; omega
      clear hV h9
      go_wp2_with (refine wpList_load_bigG 46 w9.heap.size (pkC 17 0 0 0 0 (.slice none 0 0)) 46 _ rfl (by with_reducible assumption) rfl Tryd.underlying46 rfl (by kernel_rfl) ?_)
      refine (take_c 17 0 0 0 0 none 0 0 _ udp1 true 3 b2 _ hv q1 (Fl.ok_of q7) (Pk.ok_of q9) rfl).mono ?_
      rintro e v1 ⟨rfl, hv1, hm1⟩
      have kp := hm1.keep kp hb9
      have hxv1 := hm1.ext hxV (fun k hk => by omega)
      clear hv hm1 hxV
      go_wp2_with (refine wpList_load_bigG 46 w9.heap.size (pkC 17 0 0 0 0 (.slice none 0 0)) 46 _ rfl (by with_reducible assumption) rfl Tryd.underlying46 rfl (by kernel_rfl) ?_)
      refine (state_any b2 _ _ hv1).mono ?_
      rw [q3]
      rintro e v2 ⟨rfl, hx⟩
      have kp := hx.block kp
      have hv2 := hx.block hv1
      have hxv2 := hxv1.tr hx
      clear hv1 hxv1 hx
      go_wp2_with (refine wpList_load_bigG 46 w9.heap.size (pkC 17 0 0 0 0 (.slice none 0 0)) 46 _ rfl (by with_reducible assumption) rfl Tryd.underlying46 rfl (by kernel_rfl) ?_)
      refine (alarm_any b2 udp1 _ hv2 q10).mono ?_
      rw [q4]
      rintro e v3 ⟨rfl, hx⟩
      have kp := hx.block kp
      have hv3 := hx.block hv2
      have hxv3 := hxv2.tr hx
      clear hv2 hxv2 hx
      go_wp2_with (refine wpList_load_bigG 46 w9.heap.size (pkC 17 0 0 0 0 (.slice none 0 0)) 46 _ rfl (by with_reducible assumption) rfl Tryd.underlying46 rfl (by kernel_rfl) ?_)
      refine (take_c 17 0 0 0 0 none 0 0 udp1 udp2 false 9 b2 _ hv3 q2 (Fl.ok_of q8) (Pk.ok_of q9) rfl).mono ?_
      rintro e v4 ⟨rfl, hv4, hm4⟩
      have hxv4 := hm4.ext hxv3 (fun k hk => by omega)
      clear hv3 hm4 hxv3 kp
      go_wp2_with fail
      refine (state_any b2 _ _ hv4).mono ?_
      rw [q5]
      rintro e v5 ⟨rfl, hx⟩
      have hv5 := hx.block hv4
      have hxv5 := hxv4.tr hx
      go_wp2_with fail
      refine (alarm_any b2 udp2 _ hv5 q11).mono ?_
      rw [q6]
      rintro e v6 ⟨rfl, hx⟩
      go_wp2
      go_ret
      exact ⟨rfl, hxv5.tr hx⟩
end Go.Proofs.YtgknjokjpaodlaaDoor

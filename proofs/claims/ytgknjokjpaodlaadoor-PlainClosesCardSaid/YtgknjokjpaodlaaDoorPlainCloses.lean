/-
  Proved here: the law PlainCloses returns true, where plain's variable of protocols holds what it is laid with.
-/
import Derived.Test.YtgknjokjpaodlaaDoorPlainD
import Derived.Test.YtgknjokjpaodlaaDoorPlainW
import Derived.Test.YtgknjokjpaodlaaDoorShape
import Derived.Deep.Cut
namespace Go.Proofs.YtgknjokjpaodlaaDoor.plainCloses
open Go.ChangeShapes Go.WideShapes Go.ChangeAt Go.RowKit Go.Cul Go.Loose
set_option linter.unusedVariables false

set_option maxHeartbeats 1000000 in
theorem send_any (m : Fl) (b pv : Nat) (ins : Bool) (q k f : Int) (a : Option Addr) (n cp : Nat) (w : World) (h : At w b m) (hv : w.heap[pv]? = some (.cells #[fp b] 24)) (hpv : pv ≠ b)
    (he : takeE m (pkP 6 q k f 0 a n cp) = 0) (hm : m.ok) (hp : (pkP 6 q k f 0 a n cp).ok) :
    Calls Tryd.prog 8 #[.bool ins, .int .u32 q, .int .u32 k, .int .u8 f, .slice a n cp, .pointer (some ⟨pv, 0, none⟩)] w
      fun e w' => e = .returned (.int .i64 (stM (takeM m (pkP 6 q k f 0 a n cp) ins 1))) ∧ At w' b (takeM m (pkP 6 q k f 0 a n cp) ins 1) ∧ Mvs (fun j => j = b) w w' := by
  obtain ⟨m', hm'⟩ : ∃ m', takeM m (pkP 6 q k f 0 a n cp) ins 1 = m' := ⟨_, rfl⟩
  rw [hm']
  have HM := Lib.hid hm'
  clear hm'
  go_enter Tryd.func8, Tryd.ntmps8
  go_wp2_with fail
  refine (lsegment_any q k f _).mono ?_
  rintro e x1 ⟨rfl, hx⟩
  have h := hx.block h
  have hv := hx.block hv
  go_upto_region 3 with (refine wpList_store_big 46 (pkC 6 q k f 0 (.slice none 0 0)) rfl rfl (by kernel_rfl) rfl (pk_one _ _ _ _ _ _ _ _) ?_)
  generalize hV : x1.alloc _ = V
  have ku : V.heap[x1.heap.size]? = some (.cells (pkC 6 q k f 0 (.slice a n cp)) 46) := by rw [← hV]; exact heap_alloc_new x1 _
  have hub : x1.heap.size ≠ b := by have := lt_of_block h; omega
  have h : At V b m := by rw [← hV]; exact (Ext.new x1 _).block h
  have hv : V.heap[pv]? = some (.cells #[fp b] 24) := by rw [← hV]; exact (Ext.new x1 _).block hv
  have hxV : Ext w V := by rw [← hV]; exact hx.al _
  clear hV hx
  have c0 := cell_blk hv 0
  simp at c0
  go_wp2_with (refine wpList_load_bigG 46 x1.heap.size (pkC 6 q k f 0 (.slice a n cp)) 46 _ rfl (by with_reducible assumption) rfl Tryd.underlying46 rfl (by kernel_rfl) ?_)
  refine (take_c 6 q k f 0 a n cp m m' ins 1 b _ h he hm hp HM.out).mono ?_
  rintro e x2 ⟨rfl, h2, hm2⟩
  have hv2 := hm2.keep hv hpv
  have c0 := cell_blk hv2 0
  simp at c0
  have hm3 := (Mvs.ofExt hxV).tr hm2
  go_wp2_with fail
  refine (state_any b m' _ h2).mono ?_
  rintro e x3 ⟨rfl, hx3⟩
  go_wp2
  go_ret
  exact ⟨rfl, hx3.block h2, hm3.tr (Mvs.ofExt hx3)⟩

theorem send_k (c : Cl) (ha : 0 ≤ c.a ∧ c.a ≤ 4294967295) (hb : 0 ≤ c.b ∧ c.b ≤ 4294967295) (k : Nat) (b pv : Nat) (ins : Bool) (q ack f : Int) (a : Option Addr) (n cp : Nat) (w : World) (hs : c.s k = (ins, q, ack, f)) (hd : c.d k = (a, n, cp)) (st : Int) (hst : stM (c.F (k + 1)) = st)
    (h : At w b (c.F k)) (hv : w.heap[pv]? = some (.cells #[fp b] 24)) (hpv : pv ≠ b) :
    Calls Tryd.prog 8 #[.bool ins, .int .u32 q, .int .u32 ack, .int .u8 f, .slice a n cp, .pointer (some ⟨pv, 0, none⟩)] w
      fun e w' => e = .returned (.int .i64 st) ∧ At w' b (c.F (k + 1)) ∧ Mvs (fun j => j = b) w w' := by
  have hP : c.P k = pkP 6 q ack f 0 a n cp := by unfold Cl.P; rw [hs, hd]
  have hF : c.F (k + 1) = takeM (c.F k) (pkP 6 q ack f 0 a n cp) ins 1 := by rw [Cl.F, hP, hs]
  have hE := cl_E c k
  have hO := cl_ok c ha hb k
  have hPo := cl_Pok c ha hb k
  rw [hP] at hE hPo
  subst hst
  rw [hF]
  exact send_any (c.F k) b pv ins q ack f a n cp w h hv hpv hE hO hPo

set_option maxHeartbeats 4000000 in
set_option maxRecDepth 100000 in
theorem walkF (w : World) (hK : Kn w) (a : Int) (ha : 0 ≤ a ∧ a ≤ 4294967295) (b : Int) (hb : 0 ≤ b ∧ b ≤ 4294967295) (vx : Value) (lx : List Int) (hx : Rd .u8 w vx lx) (bx : Byt lx) (hnx : lx.length * 1 ≤ 140737488351232)
    (vy : Value) (ly : List Int) (hy : Rd .u8 w vy ly) (by_ : Byt ly) (hny : ly.length * 1 ≤ 140737488351232) :
    Calls Tryd.prog 3 #[.int .u32 a, .int .u32 b, vx, vy, .bool false] w fun e w' => e = .returned (.bool true) ∧ Ext w w' := by
  obtain ⟨ax, cx, rfl, hx1, hx2, -⟩ := hx
  obtain ⟨ay, cy, rfl, hy1, hy2, -⟩ := hy
  obtain ⟨n, hn⟩ : ∃ n : Nat, n = min lx.length 50 := ⟨_, rfl⟩
  obtain ⟨m, hm⟩ : ∃ m : Nat, m = min ly.length 50 := ⟨_, rfl⟩
  have hn1 : (if (50 : Int) < (lx.length : Int) then (50 : Int) else (lx.length : Int)) = (n : Int) := by split <;> omega
  have hm1 : (if (50 : Int) < (ly.length : Int) then (50 : Int) else (ly.length : Int)) = (m : Int) := by split <;> omega
  have hnl : n ≤ lx.length := by omega
  have hml : m ≤ ly.length := by omega
  have hn50 : n ≤ 50 := by omega
  have hm50 : m ≤ 50 := by omega
  have hnm : (n : Int) % 4294967296 = (n : Int) := by omega
  have hmm : (m : Int) % 4294967296 = (m : Int) := by omega
  clear hn hm
  obtain ⟨-, g1, g2, g3, g4, g5, g6, g7⟩ := cl_7 (⟨a, b, n, m, false, ax, cx, ay, cy⟩ : Cl)
  obtain ⟨g8, g9, g10, g11, g12, g13, g14, g15, g16⟩ := cl_16 (⟨a, b, n, m, false, ax, cx, ay, cy⟩ : Cl) ha hb
  have eA : (a + 1 + (n : Int)) % 4294967296 = Cl.A (⟨a, b, n, m, false, ax, cx, ay, cy⟩ : Cl) := by simp only [Cl.A, nx]; omega
  have eB : (b + 1 + (m : Int)) % 4294967296 = Cl.B (⟨a, b, n, m, false, ax, cx, ay, cy⟩ : Cl) := by simp only [Cl.B, nx]; omega
  have eA1 : (a + 1 + (n : Int) + 1) % 4294967296 = nx (Cl.A (⟨a, b, n, m, false, ax, cx, ay, cy⟩ : Cl)) := by simp only [Cl.A, nx]; omega
  have eB1 : (b + 1 + (m : Int) + 1) % 4294967296 = nx (Cl.B (⟨a, b, n, m, false, ax, cx, ay, cy⟩ : Cl)) := by simp only [Cl.B, nx]; omega
  have s0 : Cl.s (⟨a, b, n, m, false, ax, cx, ay, cy⟩ : Cl) 0 = (true, a, 0, 2) := by rfl
  have s1 : Cl.s (⟨a, b, n, m, false, ax, cx, ay, cy⟩ : Cl) 1 = (true, a, 0, 2) := by rfl
  have s2 : Cl.s (⟨a, b, n, m, false, ax, cx, ay, cy⟩ : Cl) 2 = (false, b, (a + 1) % 4294967296, 18) := by rfl
  have s3 : Cl.s (⟨a, b, n, m, false, ax, cx, ay, cy⟩ : Cl) 3 = (true, (a + 1) % 4294967296, (b + 1) % 4294967296, 16) := by rfl
  have s4 : Cl.s (⟨a, b, n, m, false, ax, cx, ay, cy⟩ : Cl) 4 = (true, (a + 1) % 4294967296, (b + 1) % 4294967296, 16) := by rfl
  have s5 : Cl.s (⟨a, b, n, m, false, ax, cx, ay, cy⟩ : Cl) 5 = (false, (b + 1) % 4294967296, (a + 1 + (n : Int)) % 4294967296, 16) := by rw [eA]; rfl
  have s6 : Cl.s (⟨a, b, n, m, false, ax, cx, ay, cy⟩ : Cl) 6 = (true, (a + 1 + (n : Int)) % 4294967296, (b + 1 + (m : Int)) % 4294967296, 16) := by rw [eA]; rw [eB]; rfl
  have s7 : Cl.s (⟨a, b, n, m, false, ax, cx, ay, cy⟩ : Cl) 7 = (false, (b + 1 + (m : Int)) % 4294967296, (a + 1 + (n : Int)) % 4294967296, 17) := by rw [eA]; rw [eB]; rfl
  have s8 : Cl.s (⟨a, b, n, m, false, ax, cx, ay, cy⟩ : Cl) 8 = (false, (b + 1 + (m : Int)) % 4294967296, (a + 1 + (n : Int)) % 4294967296, 17) := by rw [eA]; rw [eB]; rfl
  have s9 : Cl.s (⟨a, b, n, m, false, ax, cx, ay, cy⟩ : Cl) 9 = (true, (a + 1 + (n : Int)) % 4294967296, (b + 1 + (m : Int) + 1) % 4294967296, 16) := by rw [eA]; rw [eB1]; rfl
  have s10 : Cl.s (⟨a, b, n, m, false, ax, cx, ay, cy⟩ : Cl) 10 = (true, (a + 1 + (n : Int)) % 4294967296, (b + 1 + (m : Int) + 1) % 4294967296, 17) := by rw [eA]; rw [eB1]; rfl
  have s11 : Cl.s (⟨a, b, n, m, false, ax, cx, ay, cy⟩ : Cl) 11 = (true, (a + 1 + (n : Int)) % 4294967296, (b + 1 + (m : Int) + 1) % 4294967296, 17) := by rw [eA]; rw [eB1]; rfl
  have s12 : Cl.s (⟨a, b, n, m, false, ax, cx, ay, cy⟩ : Cl) 12 = (false, (b + 1 + (m : Int) + 1) % 4294967296, (a + 1 + (n : Int)) % 4294967296, 16) := by rw [eA]; rw [eB1]; rfl
  have s13 : Cl.s (⟨a, b, n, m, false, ax, cx, ay, cy⟩ : Cl) 13 = (false, (b + 1 + (m : Int) + 1) % 4294967296, (a + 1 + (n : Int) + 1) % 4294967296, 16) := by rw [eA1]; rw [eB1]; rfl
  have s14 : Cl.s (⟨a, b, n, m, false, ax, cx, ay, cy⟩ : Cl) 14 = (false, (b + 1 + (m : Int) + 1) % 4294967296, (a + 1 + (n : Int) + 1) % 4294967296, 16) := by rw [eA1]; rw [eB1]; rfl
  have s15 : Cl.s (⟨a, b, n, m, false, ax, cx, ay, cy⟩ : Cl) 15 = (true, a, 0, 2) := by rfl
  clear eA eB eA1 eB1
  have hK0 := hK
  go_enter Tryd.func3, Tryd.ntmps3
  go_wp2_with fail
  go_region
  have hw := (Ext.rfl' w).dr
  have hK := hK.ext hw
  generalize w.drew = v0 at *
  go_wp2_with fail
  refine (config_any _).mono ?_
  rintro e x1 ⟨rfl, hx⟩
  have hw := hw.tr hx
  have hK := hK.ext hx
  go_wp2_with fail
  refine (open_any 80 5 6 0 _ hK rfl (by decide)).mono ?_
  rintro e x2 ⟨bf, rfl, hbf, h, hx⟩
  have hwb : w.heap.size ≤ bf := Nat.le_trans hw.size hbf
  have hw := hw.tr hx
  have hK := hK.ext hx
  clear hx hbf
  go_upto_region 7 with (fail)
  generalize hV : x2.alloc _ = V
  have hv : V.heap[x2.heap.size]? = some (.cells #[fp bf] 24) := by rw [← hV]; exact heap_alloc_new x2 _
  have hpv : x2.heap.size ≠ bf := by have := lt_of_block h; omega
  have h : At V bf ((⟨a, b, n, m, false, ax, cx, ay, cy⟩ : Cl).F 0) := by rw [← hV]; exact (Ext.new x2 _).block h
  have hK : Kn V := by rw [← hV]; exact hK.ext (Ext.new x2 _)
  have hw : Ext w V := by rw [← hV]; exact hw.al _
  clear hV
  go_wp2_with fail
  refine (send_k (⟨a, b, n, m, false, ax, cx, ay, cy⟩ : Cl) ha hb 0 bf x2.heap.size _ _ _ _ _ _ _ _ s0 rfl _ g1 h hv hpv).mono ?_
  rintro e y0 ⟨rfl, h0, hm⟩
  have h := h0
  have hv := hm.keep hv hpv
  have hw := hm.ext hw (fun k hk => by omega)
  clear h0 hm
  go_wp2_with fail
  refine (send_k (⟨a, b, n, m, false, ax, cx, ay, cy⟩ : Cl) ha hb 1 bf x2.heap.size _ _ _ _ _ _ _ _ s1 rfl _ g2 h hv hpv).mono ?_
  rintro e y1 ⟨rfl, h0, hm⟩
  have h := h0
  have hv := hm.keep hv hpv
  have hw := hm.ext hw (fun k hk => by omega)
  clear h0 hm
  go_wp2_with fail
  refine (send_k (⟨a, b, n, m, false, ax, cx, ay, cy⟩ : Cl) ha hb 2 bf x2.heap.size _ _ _ _ _ _ _ _ s2 rfl _ g3 h hv hpv).mono ?_
  rintro e y2 ⟨rfl, h0, hm⟩
  have h := h0
  have hv := hm.keep hv hpv
  have hw := hm.ext hw (fun k hk => by omega)
  clear h0 hm
  go_wp2_with fail
  refine (send_k (⟨a, b, n, m, false, ax, cx, ay, cy⟩ : Cl) ha hb 3 bf x2.heap.size _ _ _ _ _ _ _ _ s3 rfl _ g4 h hv hpv).mono ?_
  rintro e y3 ⟨rfl, h0, hm⟩
  have h := h0
  have hv := hm.keep hv hpv
  have hw := hm.ext hw (fun k hk => by omega)
  clear h0 hm
  go_wp2_with fail
  refine (send_k (⟨a, b, n, m, false, ax, cx, ay, cy⟩ : Cl) ha hb 4 bf x2.heap.size _ _ _ _ _ _ _ _ s4 rfl _ g5 h hv hpv).mono ?_
  rintro e y4 ⟨rfl, h0, hm⟩
  have h := h0
  have hv := hm.keep hv hpv
  have hw := hm.ext hw (fun k hk => by omega)
  clear h0 hm
  go_wp2_with fail
  refine (send_k (⟨a, b, n, m, false, ax, cx, ay, cy⟩ : Cl) ha hb 5 bf x2.heap.size _ _ _ _ _ _ _ _ s5 rfl _ g6 h hv hpv).mono ?_
  rintro e y5 ⟨rfl, h0, hm⟩
  have h := h0
  have hv := hm.keep hv hpv
  have hw := hm.ext hw (fun k hk => by omega)
  clear h0 hm
  go_wp2_with fail
  refine (send_k (⟨a, b, n, m, false, ax, cx, ay, cy⟩ : Cl) ha hb 6 bf x2.heap.size _ _ _ _ _ _ _ _ s6 rfl _ g7 h hv hpv).mono ?_
  rintro e y6 ⟨rfl, h0, hm⟩
  have h := h0
  have hv := hm.keep hv hpv
  have hw := hm.ext hw (fun k hk => by omega)
  clear h0 hm
  go_wp2_with fail
  refine (send_k (⟨a, b, n, m, false, ax, cx, ay, cy⟩ : Cl) ha hb 7 bf x2.heap.size _ _ _ _ _ _ _ _ s7 rfl _ g8 h hv hpv).mono ?_
  rintro e y7 ⟨rfl, h0, hm⟩
  have h := h0
  have hv := hm.keep hv hpv
  have hw := hm.ext hw (fun k hk => by omega)
  clear h0 hm
  go_wp2_with fail
  refine (send_k (⟨a, b, n, m, false, ax, cx, ay, cy⟩ : Cl) ha hb 8 bf x2.heap.size _ _ _ _ _ _ _ _ s8 rfl _ g9 h hv hpv).mono ?_
  rintro e y8 ⟨rfl, h0, hm⟩
  have h := h0
  have hv := hm.keep hv hpv
  have hw := hm.ext hw (fun k hk => by omega)
  clear h0 hm
  go_wp2_with fail
  refine (send_k (⟨a, b, n, m, false, ax, cx, ay, cy⟩ : Cl) ha hb 9 bf x2.heap.size _ _ _ _ _ _ _ _ s9 rfl _ g10 h hv hpv).mono ?_
  rintro e y9 ⟨rfl, h0, hm⟩
  have h := h0
  have hv := hm.keep hv hpv
  have hw := hm.ext hw (fun k hk => by omega)
  clear h0 hm
  go_wp2_with fail
  refine (send_k (⟨a, b, n, m, false, ax, cx, ay, cy⟩ : Cl) ha hb 10 bf x2.heap.size _ _ _ _ _ _ _ _ s10 rfl _ g11 h hv hpv).mono ?_
  rintro e y10 ⟨rfl, h0, hm⟩
  have h := h0
  have hv := hm.keep hv hpv
  have hw := hm.ext hw (fun k hk => by omega)
  clear h0 hm
  go_wp2_with fail
  refine (send_k (⟨a, b, n, m, false, ax, cx, ay, cy⟩ : Cl) ha hb 11 bf x2.heap.size _ _ _ _ _ _ _ _ s11 rfl _ g12 h hv hpv).mono ?_
  rintro e y11 ⟨rfl, h0, hm⟩
  have h := h0
  have hv := hm.keep hv hpv
  have hw := hm.ext hw (fun k hk => by omega)
  clear h0 hm
  go_wp2_with fail
  refine (send_k (⟨a, b, n, m, false, ax, cx, ay, cy⟩ : Cl) ha hb 12 bf x2.heap.size _ _ _ _ _ _ _ _ s12 rfl _ g13 h hv hpv).mono ?_
  rintro e y12 ⟨rfl, h0, hm⟩
  have h := h0
  have hv := hm.keep hv hpv
  have hw := hm.ext hw (fun k hk => by omega)
  clear h0 hm
  go_wp2_with fail
  refine (send_k (⟨a, b, n, m, false, ax, cx, ay, cy⟩ : Cl) ha hb 13 bf x2.heap.size _ _ _ _ _ _ _ _ s13 rfl _ g14 h hv hpv).mono ?_
  rintro e y13 ⟨rfl, h0, hm⟩
  have h := h0
  have hv := hm.keep hv hpv
  have hw := hm.ext hw (fun k hk => by omega)
  clear h0 hm
  go_wp2_with fail
  refine (send_k (⟨a, b, n, m, false, ax, cx, ay, cy⟩ : Cl) ha hb 14 bf x2.heap.size _ _ _ _ _ _ _ _ s14 rfl _ g15 h hv hpv).mono ?_
  rintro e y14 ⟨rfl, h0, hm⟩
  have h := h0
  have hv := hm.keep hv hpv
  have hw := hm.ext hw (fun k hk => by omega)
  clear h0 hm
  go_wp2_with fail
  refine (send_k (⟨a, b, n, m, false, ax, cx, ay, cy⟩ : Cl) ha hb 15 bf x2.heap.size _ _ _ _ _ _ _ _ s15 rfl _ g16 h hv hpv).mono ?_
  rintro e y15 ⟨rfl, h0, hm⟩
  have h := h0
  have hv := hm.keep hv hpv
  have hw := hm.ext hw (fun k hk => by omega)
  clear h0 hm
  go_wp2_with fail
  refine (wakes_any _ (hK0.ext hw)).mono ?_
  rintro e z ⟨rfl, hx⟩
  go_wp2
  go_ret
  exact ⟨rfl, hw.tr hx⟩

set_option maxHeartbeats 4000000 in
set_option maxRecDepth 100000 in
theorem walkT (w : World) (hK : Kn w) (a : Int) (ha : 0 ≤ a ∧ a ≤ 4294967295) (b : Int) (hb : 0 ≤ b ∧ b ≤ 4294967295) (vx : Value) (lx : List Int) (hx : Rd .u8 w vx lx) (bx : Byt lx) (hnx : lx.length * 1 ≤ 140737488351232)
    (vy : Value) (ly : List Int) (hy : Rd .u8 w vy ly) (by_ : Byt ly) (hny : ly.length * 1 ≤ 140737488351232) :
    Calls Tryd.prog 3 #[.int .u32 a, .int .u32 b, vx, vy, .bool true] w fun e w' => e = .returned (.bool true) ∧ Ext w w' := by
  obtain ⟨ax, cx, rfl, hx1, hx2, -⟩ := hx
  obtain ⟨ay, cy, rfl, hy1, hy2, -⟩ := hy
  obtain ⟨n, hn⟩ : ∃ n : Nat, n = min lx.length 50 := ⟨_, rfl⟩
  obtain ⟨m, hm⟩ : ∃ m : Nat, m = min ly.length 50 := ⟨_, rfl⟩
  have hn1 : (if (50 : Int) < (lx.length : Int) then (50 : Int) else (lx.length : Int)) = (n : Int) := by split <;> omega
  have hm1 : (if (50 : Int) < (ly.length : Int) then (50 : Int) else (ly.length : Int)) = (m : Int) := by split <;> omega
  have hnl : n ≤ lx.length := by omega
  have hml : m ≤ ly.length := by omega
  have hn50 : n ≤ 50 := by omega
  have hm50 : m ≤ 50 := by omega
  have hnm : (n : Int) % 4294967296 = (n : Int) := by omega
  have hmm : (m : Int) % 4294967296 = (m : Int) := by omega
  clear hn hm
  obtain ⟨-, g1, g2, g3, g4, g5, g6, g7⟩ := cl_7 (⟨a, b, n, m, true, ax, cx, ay, cy⟩ : Cl)
  obtain ⟨g8, g9, g10, g11, g12, g13, g14, g15, g16⟩ := cl_16 (⟨a, b, n, m, true, ax, cx, ay, cy⟩ : Cl) ha hb
  have eA : (a + 1 + (n : Int)) % 4294967296 = Cl.A (⟨a, b, n, m, true, ax, cx, ay, cy⟩ : Cl) := by simp only [Cl.A, nx]; omega
  have eB : (b + 1 + (m : Int)) % 4294967296 = Cl.B (⟨a, b, n, m, true, ax, cx, ay, cy⟩ : Cl) := by simp only [Cl.B, nx]; omega
  have eA1 : (a + 1 + (n : Int) + 1) % 4294967296 = nx (Cl.A (⟨a, b, n, m, true, ax, cx, ay, cy⟩ : Cl)) := by simp only [Cl.A, nx]; omega
  have eB1 : (b + 1 + (m : Int) + 1) % 4294967296 = nx (Cl.B (⟨a, b, n, m, true, ax, cx, ay, cy⟩ : Cl)) := by simp only [Cl.B, nx]; omega
  have s0 : Cl.s (⟨a, b, n, m, true, ax, cx, ay, cy⟩ : Cl) 0 = (true, a, 0, 2) := by rfl
  have s1 : Cl.s (⟨a, b, n, m, true, ax, cx, ay, cy⟩ : Cl) 1 = (true, a, 0, 2) := by rfl
  have s2 : Cl.s (⟨a, b, n, m, true, ax, cx, ay, cy⟩ : Cl) 2 = (false, b, (a + 1) % 4294967296, 18) := by rfl
  have s3 : Cl.s (⟨a, b, n, m, true, ax, cx, ay, cy⟩ : Cl) 3 = (true, (a + 1) % 4294967296, (b + 1) % 4294967296, 16) := by rfl
  have s4 : Cl.s (⟨a, b, n, m, true, ax, cx, ay, cy⟩ : Cl) 4 = (true, (a + 1) % 4294967296, (b + 1) % 4294967296, 16) := by rfl
  have s5 : Cl.s (⟨a, b, n, m, true, ax, cx, ay, cy⟩ : Cl) 5 = (false, (b + 1) % 4294967296, (a + 1 + (n : Int)) % 4294967296, 16) := by rw [eA]; rfl
  have s6 : Cl.s (⟨a, b, n, m, true, ax, cx, ay, cy⟩ : Cl) 6 = (true, (a + 1 + (n : Int)) % 4294967296, (b + 1 + (m : Int)) % 4294967296, 16) := by rw [eA]; rw [eB]; rfl
  have s7 : Cl.s (⟨a, b, n, m, true, ax, cx, ay, cy⟩ : Cl) 7 = (true, (a + 1 + (n : Int)) % 4294967296, (b + 1 + (m : Int)) % 4294967296, 17) := by rw [eA]; rw [eB]; rfl
  have s8 : Cl.s (⟨a, b, n, m, true, ax, cx, ay, cy⟩ : Cl) 8 = (true, (a + 1 + (n : Int)) % 4294967296, (b + 1 + (m : Int)) % 4294967296, 17) := by rw [eA]; rw [eB]; rfl
  have s9 : Cl.s (⟨a, b, n, m, true, ax, cx, ay, cy⟩ : Cl) 9 = (false, (b + 1 + (m : Int)) % 4294967296, (a + 1 + (n : Int) + 1) % 4294967296, 16) := by rw [eA1]; rw [eB]; rfl
  have s10 : Cl.s (⟨a, b, n, m, true, ax, cx, ay, cy⟩ : Cl) 10 = (false, (b + 1 + (m : Int)) % 4294967296, (a + 1 + (n : Int) + 1) % 4294967296, 17) := by rw [eA1]; rw [eB]; rfl
  have s11 : Cl.s (⟨a, b, n, m, true, ax, cx, ay, cy⟩ : Cl) 11 = (false, (b + 1 + (m : Int)) % 4294967296, (a + 1 + (n : Int) + 1) % 4294967296, 17) := by rw [eA1]; rw [eB]; rfl
  have s12 : Cl.s (⟨a, b, n, m, true, ax, cx, ay, cy⟩ : Cl) 12 = (true, (a + 1 + (n : Int) + 1) % 4294967296, (b + 1 + (m : Int)) % 4294967296, 16) := by rw [eA1]; rw [eB]; rfl
  have s13 : Cl.s (⟨a, b, n, m, true, ax, cx, ay, cy⟩ : Cl) 13 = (true, (a + 1 + (n : Int) + 1) % 4294967296, (b + 1 + (m : Int) + 1) % 4294967296, 16) := by rw [eA1]; rw [eB1]; rfl
  have s14 : Cl.s (⟨a, b, n, m, true, ax, cx, ay, cy⟩ : Cl) 14 = (true, (a + 1 + (n : Int) + 1) % 4294967296, (b + 1 + (m : Int) + 1) % 4294967296, 16) := by rw [eA1]; rw [eB1]; rfl
  have s15 : Cl.s (⟨a, b, n, m, true, ax, cx, ay, cy⟩ : Cl) 15 = (true, a, 0, 2) := by rfl
  clear eA eB eA1 eB1
  have hK0 := hK
  go_enter Tryd.func3, Tryd.ntmps3
  go_wp2_with fail
  go_region
  have hw := (Ext.rfl' w).dr
  have hK := hK.ext hw
  generalize w.drew = v0 at *
  go_wp2_with fail
  refine (config_any _).mono ?_
  rintro e x1 ⟨rfl, hx⟩
  have hw := hw.tr hx
  have hK := hK.ext hx
  go_wp2_with fail
  refine (open_any 80 5 6 0 _ hK rfl (by decide)).mono ?_
  rintro e x2 ⟨bf, rfl, hbf, h, hx⟩
  have hwb : w.heap.size ≤ bf := Nat.le_trans hw.size hbf
  have hw := hw.tr hx
  have hK := hK.ext hx
  clear hx hbf
  go_upto_region 7 with (fail)
  generalize hV : x2.alloc _ = V
  have hv : V.heap[x2.heap.size]? = some (.cells #[fp bf] 24) := by rw [← hV]; exact heap_alloc_new x2 _
  have hpv : x2.heap.size ≠ bf := by have := lt_of_block h; omega
  have h : At V bf ((⟨a, b, n, m, true, ax, cx, ay, cy⟩ : Cl).F 0) := by rw [← hV]; exact (Ext.new x2 _).block h
  have hK : Kn V := by rw [← hV]; exact hK.ext (Ext.new x2 _)
  have hw : Ext w V := by rw [← hV]; exact hw.al _
  clear hV
  go_wp2_with fail
  refine (send_k (⟨a, b, n, m, true, ax, cx, ay, cy⟩ : Cl) ha hb 0 bf x2.heap.size _ _ _ _ _ _ _ _ s0 rfl _ g1 h hv hpv).mono ?_
  rintro e y0 ⟨rfl, h0, hm⟩
  have h := h0
  have hv := hm.keep hv hpv
  have hw := hm.ext hw (fun k hk => by omega)
  clear h0 hm
  go_wp2_with fail
  refine (send_k (⟨a, b, n, m, true, ax, cx, ay, cy⟩ : Cl) ha hb 1 bf x2.heap.size _ _ _ _ _ _ _ _ s1 rfl _ g2 h hv hpv).mono ?_
  rintro e y1 ⟨rfl, h0, hm⟩
  have h := h0
  have hv := hm.keep hv hpv
  have hw := hm.ext hw (fun k hk => by omega)
  clear h0 hm
  go_wp2_with fail
  refine (send_k (⟨a, b, n, m, true, ax, cx, ay, cy⟩ : Cl) ha hb 2 bf x2.heap.size _ _ _ _ _ _ _ _ s2 rfl _ g3 h hv hpv).mono ?_
  rintro e y2 ⟨rfl, h0, hm⟩
  have h := h0
  have hv := hm.keep hv hpv
  have hw := hm.ext hw (fun k hk => by omega)
  clear h0 hm
  go_wp2_with fail
  refine (send_k (⟨a, b, n, m, true, ax, cx, ay, cy⟩ : Cl) ha hb 3 bf x2.heap.size _ _ _ _ _ _ _ _ s3 rfl _ g4 h hv hpv).mono ?_
  rintro e y3 ⟨rfl, h0, hm⟩
  have h := h0
  have hv := hm.keep hv hpv
  have hw := hm.ext hw (fun k hk => by omega)
  clear h0 hm
  go_wp2_with fail
  refine (send_k (⟨a, b, n, m, true, ax, cx, ay, cy⟩ : Cl) ha hb 4 bf x2.heap.size _ _ _ _ _ _ _ _ s4 rfl _ g5 h hv hpv).mono ?_
  rintro e y4 ⟨rfl, h0, hm⟩
  have h := h0
  have hv := hm.keep hv hpv
  have hw := hm.ext hw (fun k hk => by omega)
  clear h0 hm
  go_wp2_with fail
  refine (send_k (⟨a, b, n, m, true, ax, cx, ay, cy⟩ : Cl) ha hb 5 bf x2.heap.size _ _ _ _ _ _ _ _ s5 rfl _ g6 h hv hpv).mono ?_
  rintro e y5 ⟨rfl, h0, hm⟩
  have h := h0
  have hv := hm.keep hv hpv
  have hw := hm.ext hw (fun k hk => by omega)
  clear h0 hm
  go_wp2_with fail
  refine (send_k (⟨a, b, n, m, true, ax, cx, ay, cy⟩ : Cl) ha hb 6 bf x2.heap.size _ _ _ _ _ _ _ _ s6 rfl _ g7 h hv hpv).mono ?_
  rintro e y6 ⟨rfl, h0, hm⟩
  have h := h0
  have hv := hm.keep hv hpv
  have hw := hm.ext hw (fun k hk => by omega)
  clear h0 hm
  go_wp2_with fail
  refine (send_k (⟨a, b, n, m, true, ax, cx, ay, cy⟩ : Cl) ha hb 7 bf x2.heap.size _ _ _ _ _ _ _ _ s7 rfl _ g8 h hv hpv).mono ?_
  rintro e y7 ⟨rfl, h0, hm⟩
  have h := h0
  have hv := hm.keep hv hpv
  have hw := hm.ext hw (fun k hk => by omega)
  clear h0 hm
  go_wp2_with fail
  refine (send_k (⟨a, b, n, m, true, ax, cx, ay, cy⟩ : Cl) ha hb 8 bf x2.heap.size _ _ _ _ _ _ _ _ s8 rfl _ g9 h hv hpv).mono ?_
  rintro e y8 ⟨rfl, h0, hm⟩
  have h := h0
  have hv := hm.keep hv hpv
  have hw := hm.ext hw (fun k hk => by omega)
  clear h0 hm
  go_wp2_with fail
  refine (send_k (⟨a, b, n, m, true, ax, cx, ay, cy⟩ : Cl) ha hb 9 bf x2.heap.size _ _ _ _ _ _ _ _ s9 rfl _ g10 h hv hpv).mono ?_
  rintro e y9 ⟨rfl, h0, hm⟩
  have h := h0
  have hv := hm.keep hv hpv
  have hw := hm.ext hw (fun k hk => by omega)
  clear h0 hm
  go_wp2_with fail
  refine (send_k (⟨a, b, n, m, true, ax, cx, ay, cy⟩ : Cl) ha hb 10 bf x2.heap.size _ _ _ _ _ _ _ _ s10 rfl _ g11 h hv hpv).mono ?_
  rintro e y10 ⟨rfl, h0, hm⟩
  have h := h0
  have hv := hm.keep hv hpv
  have hw := hm.ext hw (fun k hk => by omega)
  clear h0 hm
  go_wp2_with fail
  refine (send_k (⟨a, b, n, m, true, ax, cx, ay, cy⟩ : Cl) ha hb 11 bf x2.heap.size _ _ _ _ _ _ _ _ s11 rfl _ g12 h hv hpv).mono ?_
  rintro e y11 ⟨rfl, h0, hm⟩
  have h := h0
  have hv := hm.keep hv hpv
  have hw := hm.ext hw (fun k hk => by omega)
  clear h0 hm
  go_wp2_with fail
  refine (send_k (⟨a, b, n, m, true, ax, cx, ay, cy⟩ : Cl) ha hb 12 bf x2.heap.size _ _ _ _ _ _ _ _ s12 rfl _ g13 h hv hpv).mono ?_
  rintro e y12 ⟨rfl, h0, hm⟩
  have h := h0
  have hv := hm.keep hv hpv
  have hw := hm.ext hw (fun k hk => by omega)
  clear h0 hm
  go_wp2_with fail
  refine (send_k (⟨a, b, n, m, true, ax, cx, ay, cy⟩ : Cl) ha hb 13 bf x2.heap.size _ _ _ _ _ _ _ _ s13 rfl _ g14 h hv hpv).mono ?_
  rintro e y13 ⟨rfl, h0, hm⟩
  have h := h0
  have hv := hm.keep hv hpv
  have hw := hm.ext hw (fun k hk => by omega)
  clear h0 hm
  go_wp2_with fail
  refine (send_k (⟨a, b, n, m, true, ax, cx, ay, cy⟩ : Cl) ha hb 14 bf x2.heap.size _ _ _ _ _ _ _ _ s14 rfl _ g15 h hv hpv).mono ?_
  rintro e y14 ⟨rfl, h0, hm⟩
  have h := h0
  have hv := hm.keep hv hpv
  have hw := hm.ext hw (fun k hk => by omega)
  clear h0 hm
  go_wp2_with fail
  refine (send_k (⟨a, b, n, m, true, ax, cx, ay, cy⟩ : Cl) ha hb 15 bf x2.heap.size _ _ _ _ _ _ _ _ s15 rfl _ g16 h hv hpv).mono ?_
  rintro e y15 ⟨rfl, h0, hm⟩
  have h := h0
  have hv := hm.keep hv hpv
  have hw := hm.ext hw (fun k hk => by omega)
  clear h0 hm
  go_wp2_with fail
  refine (wakes_any _ (hK0.ext hw)).mono ?_
  rintro e z ⟨rfl, hx⟩
  go_wp2
  go_ret
  exact ⟨rfl, hw.tr hx⟩

theorem walk (w : World) (hK : Kn w) (a : Int) (ha : 0 ≤ a ∧ a ≤ 4294967295) (b : Int) (hb : 0 ≤ b ∧ b ≤ 4294967295) (vx : Value) (lx : List Int) (hx : Rd .u8 w vx lx) (bx : Byt lx) (hnx : lx.length * 1 ≤ 140737488351232)
    (vy : Value) (ly : List Int) (hy : Rd .u8 w vy ly) (by_ : Byt ly) (hny : ly.length * 1 ≤ 140737488351232) (first : Bool) :
    Calls Tryd.prog 3 #[.int .u32 a, .int .u32 b, vx, vy, .bool first] w fun e w' => e = .returned (.bool true) ∧ Ext w w' := by
  cases first
  · exact walkF w hK a ha b hb vx lx hx bx hnx vy ly hy by_ hny
  · exact walkT w hK a ha b hb vx lx hx bx hnx vy ly hy by_ hny
end Go.Proofs.YtgknjokjpaodlaaDoor.plainCloses

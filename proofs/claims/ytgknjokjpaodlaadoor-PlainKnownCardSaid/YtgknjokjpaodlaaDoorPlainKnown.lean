/-
  Proved here: the closed law PlainKnown returns true, where plain's variable of protocols holds what it is laid with.
-/
import Derived.Test.YtgknjokjpaodlaaDoorPlainW
import Derived.Deep.Cut
namespace Go.Proofs.YtgknjokjpaodlaaDoor.plainKnown
open Go.ChangeShapes Go.WideShapes Go.ChangeAt Go.RowKit Go.Cul Go.Loose
set_option linter.unusedVariables false

def zeF : Fl := ⟨0, 0, 0, ⟨false, false, false, 0, 0, 0⟩, ⟨false, false, false, 0, 0, 0⟩, 0, false, 0⟩
abbrev pk0 : Pk := pkP 0 0 0 0 0 none 0 0
theorem zeE : takeE zeF pk0 ≠ 0 := by decide +kernel
theorem zeE2 : takeE zeF pk0 = 2 := by decide +kernel
theorem zeS : stM zeF = 0 := by decide +kernel
theorem zeA : alM zeF = 0 := by decide +kernel
theorem zeI : 0 ≤ zeF.idle ∧ zeF.idle ≤ 18446744073709551615 := by decide +kernel
def K1 : Fl := takeM (flNew 80 5 6 100) (pkP 6 5 50 16 10 none 0 0) true 100
def K2 : Fl := takeM K1 (pkP 6 50 5 16 0 none 0 0) false 100
def K3 : Fl := takeM K2 (pkP 6 49 0 4 0 none 0 0) false 101
def K4 : Fl := takeM K3 (pkP 6 60 0 4 0 none 0 0) false 102
def K5 : Fl := takeM K4 (pkP 6 59 0 4 0 none 0 0) false 103
def K6 : Fl := takeM K5 (pkP 6 5 50 16 10 none 0 0) true 104
def L1 : Fl := takeM (flNew 0 0 6 7) (pkP 6 0 0 4 0 none 0 0) false 7
theorem okF : (flNew 80 5 6 100).okB = true ∧ K1.okB = true ∧ K2.okB = true ∧ K3.okB = true ∧ K4.okB = true ∧ K5.okB = true ∧ (flNew 0 0 6 7).okB = true := by decide +kernel
theorem okE : takeE (flNew 80 5 6 100) (pkP 6 5 50 16 10 none 0 0) = 0 ∧ takeE K1 (pkP 6 50 5 16 0 none 0 0) = 0 ∧ takeE K2 (pkP 6 49 0 4 0 none 0 0) = 0 ∧ takeE K3 (pkP 6 60 0 4 0 none 0 0) = 0 ∧ takeE K4 (pkP 6 59 0 4 0 none 0 0) = 0 ∧ takeE K5 (pkP 6 5 50 16 10 none 0 0) = 0 ∧ takeE (flNew 0 0 6 7) (pkP 6 0 0 4 0 none 0 0) = 0 := by decide +kernel
theorem okS : stM K2 = 3 ∧ stM K4 = 3 ∧ alM K5 = 108 ∧ stM K6 = 5 ∧ alM K6 = 108 ∧ stM L1 = 5 ∧ decide (alM L1 ≤ 7) = true ∧ alM (flNew 7 0 1 7) = 8 ∧ takeE K6 (pkP 17 0 0 0 0 none 0 0) = 1 := by decide +kernel
theorem okI0 : 0 ≤ (flNew 80 5 6 100).idle ∧ (flNew 80 5 6 100).idle ≤ 18446744073709551615 := by decide +kernel
theorem okA0 : alM (flNew 80 5 6 100) = 110 := by decide +kernel
theorem okI : (0 ≤ K5.idle ∧ K5.idle ≤ 18446744073709551615) ∧ (0 ≤ K6.idle ∧ K6.idle ≤ 18446744073709551615) ∧ (0 ≤ L1.idle ∧ L1.idle ≤ 18446744073709551615) := by decide +kernel
theorem okP : ∀ q k f win : Int, (0 ≤ f ∧ f ≤ 255) ∧ (0 ≤ q ∧ q ≤ 4294967295) ∧ (0 ≤ k ∧ k ≤ 4294967295) ∧ (0 ≤ win ∧ win ≤ 65535) → (pkP 6 q k f win none 0 0).okB = true := fun q k f win h => decide_eq_true h

set_option maxHeartbeats 4000000 in
set_option maxRecDepth 100000 in
theorem walk (w : World) (hK : Kn w) : Calls Tryd.prog 5 #[] w fun e w' => e = .returned (.bool true) ∧ Ext w w' := by
  go_enter Tryd.func5, Tryd.ntmps5
  have hw := Ext.rfl' w
  go_upto_region 3 with (fail)
  generalize hZ : w.alloc _ = Z
  have fz : At Z w.heap.size zeF := by rw [← hZ]; exact heap_alloc_new w _
  have hw := (show Ext w Z by rw [← hZ]; exact Ext.new w _)
  clear hZ
  go_wp2_with fail
  refine (take_nil pk0 true 0 _).mono ?_
  rintro e x1 ⟨rfl, hx⟩
  have fz := hx.block fz
  have hw := hw.tr hx
  clear hx
  go_wp2_with fail
  refine (take_err _ zeF pk0 true 0 _ fz zeE).mono ?_
  rw [zeE2]
  rintro e x2 ⟨rfl, hx⟩
  have fz := hx.block fz
  have hw := hw.tr hx
  clear hx
  go_wp2_with fail
  refine (state_nil _).mono ?_
  rintro e x3 ⟨rfl, rfl⟩
  go_wp2_with fail
  refine (state_any _ zeF _ fz).mono ?_
  rw [zeS]
  rintro e x4 ⟨rfl, hx⟩
  have fz := hx.block fz
  have hw := hw.tr hx
  clear hx
  go_wp2_with fail
  refine (ready_nil _).mono ?_
  rintro e x5 ⟨rfl, rfl⟩
  go_wp2_with fail
  refine (alarm_any _ zeF _ fz zeI).mono ?_
  rw [zeA]
  rintro e x6 ⟨rfl, hx⟩
  have fz := hx.block fz
  have hw := hw.tr hx
  clear hx
  go_wp2_with fail
  refine (tick_nil _).mono ?_
  rintro e x7 ⟨rfl, rfl⟩
  go_wp2_with fail
  refine (copy_nil _).mono ?_
  rintro e x8 ⟨rfl, rfl⟩
  go_wp2_with fail
  refine (config_any _).mono ?_
  rintro e x9 ⟨rfl, hx⟩
  have hw := hw.tr hx
  clear hx
  go_wp2_with fail
  refine (open_any 80 5 6 100 _ (hK.ext hw) rfl (by decide)).mono ?_
  rintro e x10 ⟨b1, rfl, hbb1, f1, hx⟩
  have wb1 : w.heap.size ≤ b1 := Nat.le_trans hw.size hbb1
  have hw := hw.tr hx
  clear hx hbb1
  go_wp2_with fail
  refine (alarm_any b1 _ _ f1 okI0).mono ?_
  rw [okA0]
  rintro e x11 ⟨rfl, hx⟩
  have f1 := hx.block f1
  have hw := hw.tr hx
  clear hx
  go_wp2_with fail
  refine (lsegment_any 5 50 16 _).mono ?_
  rintro e x12 ⟨rfl, hx⟩
  have f1 := hx.block f1
  have hw := hw.tr hx
  clear hx
  go_upto_region 10 with (refine wpList_store_big 46 (pkC 6 5 50 16 0 (.slice none 0 0)) rfl rfl (by kernel_rfl) rfl (pk_one _ _ _ _ _ _ _ _) ?_)
  generalize hV : x12.alloc _ = V
  have ku : V.heap[x12.heap.size]? = some (.cells (pkC 6 5 50 16 10 (.slice none 0 0)) 46) := by rw [← hV]; exact heap_alloc_new x12 _
  have nub1 : x12.heap.size ≠ b1 := by have := lt_of_block f1; omega
  have f1 : At V b1 (flNew 80 5 6 100) := by rw [← hV]; exact (Ext.new x12 _).block f1
  have hw : Ext w V := by rw [← hV]; exact hw.al _
  clear hV
  obtain ⟨o0, o1, o2, o3, o4, o5, o6⟩ := okF
  obtain ⟨e0, e1, e2, e3, e4, e5, e6⟩ := okE
  obtain ⟨s2, s4, a5, s6, a6, t1, t2, a7, e7⟩ := okS
  obtain ⟨i5, i6, i1⟩ := okI
  go_wp2_with (refine wpList_load_bigG 46 x12.heap.size (pkC 6 5 50 16 10 (.slice none 0 0)) 46 _ rfl (by with_reducible assumption) rfl Tryd.underlying46 rfl (by kernel_rfl) ?_)
  refine (take_c 6 5 50 16 10 none 0 0 _ K1 true 100 b1 _ f1 e0 (Fl.ok_of o0) (Pk.ok_of (okP 5 50 16 10 (by decide))) rfl).mono ?_
  rintro e x13 ⟨rfl, h0, hm⟩
  have f1 := h0
  have ku := hm.keep ku nub1
  have hw := hm.ext hw (fun k hk => by omega)
  clear h0 hm
  go_wp2_with (refine wpList_load_bigG 46 x12.heap.size (pkC 6 5 50 16 10 (.slice none 0 0)) 46 _ rfl (by with_reducible assumption) rfl Tryd.underlying46 rfl (by kernel_rfl) ?_)
  refine (lsegment_any 50 5 16 _).mono ?_
  rintro e x14 ⟨rfl, hx⟩
  have f1 := hx.block f1
  have ku := hx.block ku
  have hw := hw.tr hx
  clear hx
  go_wp2_with (refine wpList_load_bigG 46 x12.heap.size (pkC 6 5 50 16 10 (.slice none 0 0)) 46 _ rfl (by with_reducible assumption) rfl Tryd.underlying46 rfl (by kernel_rfl) ?_)
  refine (take_c 6 50 5 16 0 none 0 0 K1 K2 false 100 b1 _ f1 e1 (Fl.ok_of o1) (Pk.ok_of (okP 50 5 16 0 (by decide))) rfl).mono ?_
  rintro e x15 ⟨rfl, h0, hm⟩
  have f1 := h0
  have ku := hm.keep ku nub1
  have hw := hm.ext hw (fun k hk => by omega)
  clear h0 hm
  go_wp2_with (refine wpList_load_bigG 46 x12.heap.size (pkC 6 5 50 16 10 (.slice none 0 0)) 46 _ rfl (by with_reducible assumption) rfl Tryd.underlying46 rfl (by kernel_rfl) ?_)
  refine (state_any b1 K2 _ f1).mono ?_
  rw [s2]
  rintro e x16 ⟨rfl, hx⟩
  have f1 := hx.block f1
  have ku := hx.block ku
  have hw := hw.tr hx
  clear hx
  go_wp2_with (refine wpList_load_bigG 46 x12.heap.size (pkC 6 5 50 16 10 (.slice none 0 0)) 46 _ rfl (by with_reducible assumption) rfl Tryd.underlying46 rfl (by kernel_rfl) ?_)
  refine (lsegment_any 49 0 4 _).mono ?_
  rintro e x17 ⟨rfl, hx⟩
  have f1 := hx.block f1
  have ku := hx.block ku
  have hw := hw.tr hx
  clear hx
  go_wp2_with (refine wpList_load_bigG 46 x12.heap.size (pkC 6 5 50 16 10 (.slice none 0 0)) 46 _ rfl (by with_reducible assumption) rfl Tryd.underlying46 rfl (by kernel_rfl) ?_)
  refine (take_c 6 49 0 4 0 none 0 0 K2 K3 false 101 b1 _ f1 e2 (Fl.ok_of o2) (Pk.ok_of (okP 49 0 4 0 (by decide))) rfl).mono ?_
  rintro e x18 ⟨rfl, h0, hm⟩
  have f1 := h0
  have ku := hm.keep ku nub1
  have hw := hm.ext hw (fun k hk => by omega)
  clear h0 hm
  go_wp2_with (refine wpList_load_bigG 46 x12.heap.size (pkC 6 5 50 16 10 (.slice none 0 0)) 46 _ rfl (by with_reducible assumption) rfl Tryd.underlying46 rfl (by kernel_rfl) ?_)
  refine (lsegment_any 60 0 4 _).mono ?_
  rintro e x19 ⟨rfl, hx⟩
  have f1 := hx.block f1
  have ku := hx.block ku
  have hw := hw.tr hx
  clear hx
  go_wp2_with (refine wpList_load_bigG 46 x12.heap.size (pkC 6 5 50 16 10 (.slice none 0 0)) 46 _ rfl (by with_reducible assumption) rfl Tryd.underlying46 rfl (by kernel_rfl) ?_)
  refine (take_c 6 60 0 4 0 none 0 0 K3 K4 false 102 b1 _ f1 e3 (Fl.ok_of o3) (Pk.ok_of (okP 60 0 4 0 (by decide))) rfl).mono ?_
  rintro e x20 ⟨rfl, h0, hm⟩
  have f1 := h0
  have ku := hm.keep ku nub1
  have hw := hm.ext hw (fun k hk => by omega)
  clear h0 hm
  go_wp2_with (refine wpList_load_bigG 46 x12.heap.size (pkC 6 5 50 16 10 (.slice none 0 0)) 46 _ rfl (by with_reducible assumption) rfl Tryd.underlying46 rfl (by kernel_rfl) ?_)
  refine (state_any b1 K4 _ f1).mono ?_
  rw [s4]
  rintro e x21 ⟨rfl, hx⟩
  have f1 := hx.block f1
  have ku := hx.block ku
  have hw := hw.tr hx
  clear hx
  go_wp2_with (refine wpList_load_bigG 46 x12.heap.size (pkC 6 5 50 16 10 (.slice none 0 0)) 46 _ rfl (by with_reducible assumption) rfl Tryd.underlying46 rfl (by kernel_rfl) ?_)
  refine (lsegment_any 59 0 4 _).mono ?_
  rintro e x22 ⟨rfl, hx⟩
  have f1 := hx.block f1
  have ku := hx.block ku
  have hw := hw.tr hx
  clear hx
  go_wp2_with (refine wpList_load_bigG 46 x12.heap.size (pkC 6 5 50 16 10 (.slice none 0 0)) 46 _ rfl (by with_reducible assumption) rfl Tryd.underlying46 rfl (by kernel_rfl) ?_)
  refine (take_c 6 59 0 4 0 none 0 0 K4 K5 false 103 b1 _ f1 e4 (Fl.ok_of o4) (Pk.ok_of (okP 59 0 4 0 (by decide))) rfl).mono ?_
  rintro e x23 ⟨rfl, h0, hm⟩
  have f1 := h0
  have ku := hm.keep ku nub1
  have hw := hm.ext hw (fun k hk => by omega)
  clear h0 hm
  go_wp2_with (refine wpList_load_bigG 46 x12.heap.size (pkC 6 5 50 16 10 (.slice none 0 0)) 46 _ rfl (by with_reducible assumption) rfl Tryd.underlying46 rfl (by kernel_rfl) ?_)
  refine (alarm_any b1 K5 _ f1 i5).mono ?_
  rw [a5]
  rintro e x24 ⟨rfl, hx⟩
  have f1 := hx.block f1
  have ku := hx.block ku
  have hw := hw.tr hx
  clear hx
  go_wp2_with (refine wpList_load_bigG 46 x12.heap.size (pkC 6 5 50 16 10 (.slice none 0 0)) 46 _ rfl (by with_reducible assumption) rfl Tryd.underlying46 rfl (by kernel_rfl) ?_)
  refine (take_c 6 5 50 16 10 none 0 0 K5 K6 true 104 b1 _ f1 e5 (Fl.ok_of o5) (Pk.ok_of (okP 5 50 16 10 (by decide))) rfl).mono ?_
  rintro e x25 ⟨rfl, h0, hm⟩
  have f1 := h0
  have ku := hm.keep ku nub1
  have hw := hm.ext hw (fun k hk => by omega)
  clear h0 hm
  clear ku
  go_wp2_with fail
  refine (open_any 0 0 6 7 _ (hK.ext hw) rfl (by decide)).mono ?_
  rintro e x26 ⟨b2, rfl, hbb2, f2, hx⟩
  have nb1b2 : b1 ≠ b2 := by have := lt_of_block f1; omega
  have wb2 : w.heap.size ≤ b2 := Nat.le_trans hw.size hbb2
  have f1 := hx.block f1
  have hw := hw.tr hx
  clear hx hbb2
  go_wp2_with fail
  refine (lsegment_any 0 0 4 _).mono ?_
  rintro e x27 ⟨rfl, hx⟩
  have f1 := hx.block f1
  have f2 := hx.block f2
  have hw := hw.tr hx
  clear hx
  go_wp2_with fail
  refine (take_c 6 0 0 4 0 none 0 0 _ L1 false 7 b2 _ f2 e6 (Fl.ok_of o6) (Pk.ok_of (okP 0 0 4 0 (by decide))) rfl).mono ?_
  rintro e x28 ⟨rfl, h0, hm⟩
  have f1 := hm.keep f1 nb1b2
  have f2 := h0
  have hw := hm.ext hw (fun k hk => by omega)
  clear h0 hm
  go_wp2_with fail
  refine (open_any 7 0 1 7 _ (hK.ext hw) rfl (by decide)).mono ?_
  rintro e x29 ⟨b3, rfl, hbb3, f3, hx⟩
  have nb1b3 : b1 ≠ b3 := by have := lt_of_block f1; omega
  have nb2b3 : b2 ≠ b3 := by have := lt_of_block f2; omega
  have wb3 : w.heap.size ≤ b3 := Nat.le_trans hw.size hbb3
  have f1 := hx.block f1
  have f2 := hx.block f2
  have hw := hw.tr hx
  clear hx hbb3
  go_wp2_with fail
  refine (state_any b1 K6 _ f1).mono ?_
  rw [s6]
  rintro e x30 ⟨rfl, hx⟩
  have f1 := hx.block f1
  have f2 := hx.block f2
  have f3 := hx.block f3
  have hw := hw.tr hx
  clear hx
  go_wp2_with fail
  refine (alarm_any b1 K6 _ f1 i6).mono ?_
  rw [a6]
  rintro e x31 ⟨rfl, hx⟩
  have f1 := hx.block f1
  have f2 := hx.block f2
  have f3 := hx.block f3
  have hw := hw.tr hx
  clear hx
  go_wp2_with fail
  refine (state_any b2 L1 _ f2).mono ?_
  rw [t1]
  rintro e x32 ⟨rfl, hx⟩
  have f1 := hx.block f1
  have f2 := hx.block f2
  have f3 := hx.block f3
  have hw := hw.tr hx
  clear hx
  go_wp2_with fail
  refine (tick_any b2 L1 7 _ f2 i1).mono ?_
  rw [t2]
  rintro e x33 ⟨rfl, hx⟩
  have f1 := hx.block f1
  have f2 := hx.block f2
  have f3 := hx.block f3
  have hw := hw.tr hx
  clear hx
  go_wp2_with fail
  refine (alarm_any b3 _ _ f3 (by decide +kernel)).mono ?_
  rw [a7]
  rintro e x34 ⟨rfl, hx⟩
  have f1 := hx.block f1
  have f2 := hx.block f2
  have f3 := hx.block f3
  have hw := hw.tr hx
  clear hx
  go_wp2_with fail
  refine (take_err b1 K6 (pkP 17 0 0 0 0 none 0 0) true 0 _ f1 (by rw [e7]; decide)).mono ?_
  rw [e7]
  rintro e x35 ⟨rfl, hx⟩
  have f1 := hx.block f1
  have f2 := hx.block f2
  have f3 := hx.block f3
  have hw := hw.tr hx
  clear hx
  go_wp2_with fail
  refine (wakes_any _ (hK.ext hw)).mono ?_
  rintro e x ⟨rfl, hx⟩
  go_wp2
  go_ret
  exact ⟨rfl, hw.tr hx⟩
end Go.Proofs.YtgknjokjpaodlaaDoor.plainKnown

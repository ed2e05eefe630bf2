/- The walk of FnExactQueueOk, over the contracts of the two functions that it compares. No condition. -/
import Derived.Test.YtinenkjfdmajkaaCtQueue
import Derived.Deep.DeepCutAuto
import Derived.Deep.RegionWith
namespace Go.Proofs.Ytinenkjfdmajkaa
open Go.RowKit
set_option linter.unusedVariables false

set_option maxHeartbeats 8000000 in
set_option maxRecDepth 100000 in
theorem fnExactQueueOk_walk (A0_0 : Option Addr) (n0_0 c0_0 : Nat) (us0_0 : List Job) (rb0 : Bool) (w : World) (hr0_0 : Rd w w.heap.size 3 A0_0 n0_0 c0_0 (us0_0.flatMap encJob)) (hn0_0 : us0_0.length = n0_0) (hf0_0 : ∀ u ∈ us0_0, JobFits u)
    (hS : Hid (∀ (W : World) (a0_0 : Option Addr) (d0_0 : Nat), Rd W W.heap.size 3 a0_0 n0_0 d0_0 (us0_0.flatMap encJob) → Calls Try.prog 25 #[.agg #[.slice a0_0 n0_0 d0_0]] W fun e w' => e = .returned (.bool rb0) ∧ Below W.heap.size W w'))
    (hI : Hid (∀ (W : World) (a0_0 : Option Addr) (d0_0 : Nat), Rd W W.heap.size 3 a0_0 n0_0 d0_0 (us0_0.flatMap encJob) → Calls Try.prog 27 #[.agg #[.slice a0_0 n0_0 d0_0]] W fun e w' => e = .returned (.bool rb0) ∧ Below W.heap.size W w')) :
    Calls Try.prog 6 #[.agg #[.slice A0_0 n0_0 c0_0]] w fun e w' => e = .returned (.bool true) ∧ Below w.heap.size w w' := by
  go_enter Try.func6, Try.ntmps6
  go_wp2_with fail
  refine (szQueue_any A0_0 n0_0 c0_0 us0_0 1048576 _ ((hr0_0).alloc _) hn0_0 (by omega) (by omega) hf0_0).mono ?_
  rintro e w1 ⟨rfl, hb1'⟩
  obtain ⟨hb1, hz1, hx1_0⟩ := step_alloc hb1'
  have pb0 : Bx w1 (w.heap.size) 48 #[.slice A0_0 n0_0 c0_0] := hx1_0; clear hx1_0
  have HB := hb1
  by_cases hx1 : leftOf 1048576 (n0_0 + sumJob us0_0) < 0
  · go_wp2_with fail
    go_ret
    exact ⟨rfl, HB⟩
  replace hx1 : 0 ≤ leftOf 1048576 (n0_0 + sumJob us0_0) := by omega
  have hl1 := leftOf_nn hx1
  have hb20_n0_0 : n0_0 ≤ 1048576 := by omega
  clear hl1
  have ce_pb0_0 : w1.cell? ⟨w.heap.size, 0, none⟩ = some (.slice A0_0 n0_0 c0_0) := pb0.cell 0
  have lt_pb0 : w.heap.size < w1.heap.size := pb0.lt
  go_wp2_with fail
  clear ce_pb0_0 lt_pb0
  -- what the reference returns
  refine (toQueue_any A0_0 n0_0 c0_0 us0_0 _ (hr0_0.grow HB) hn0_0 hb20_n0_0).mono ?_
  rintro e w2 ⟨tA1_0, tc1_0, rfl, ow1_0, hb2'⟩
  have hb2 := hb2'; have hz2 := hb2.size
  replace pb0 := pb0.grow' hb2
  replace HB := blift HB hb2 HB.size
  have hzo1_0 := ow1_0.2.2
  go_wp2_with fail
  refine ((hS.out _ tA1_0 tc1_0 ow1_0.rd)).mono ?_
  rintro e w3 ⟨rfl, hb3'⟩
  have hb3 := hb3'; have hz3 := hb3.size
  replace pb0 := pb0.grow' hb3
  replace ow1_0 := ow1_0.grow' hb3
  replace HB := blift HB hb3 HB.size
  clear ow1_0
  have ce_pb0_0 : w3.cell? ⟨w.heap.size, 0, none⟩ = some (.slice A0_0 n0_0 c0_0) := pb0.cell 0
  have lt_pb0 : w.heap.size < w3.heap.size := pb0.lt
  go_wp2_with fail
  clear ce_pb0_0 lt_pb0
  -- the arguments of the program's function
  refine (toQueue_any A0_0 n0_0 c0_0 us0_0 _ (hr0_0.grow HB) hn0_0 hb20_n0_0).mono ?_
  rintro e w4 ⟨tA2_0, tc2_0, rfl, ow2_0, hb4'⟩
  have hb4 := hb4'; have hz4 := hb4.size
  replace pb0 := pb0.grow' hb4
  replace HB := blift HB hb4 HB.size
  have hzo2_0 := ow2_0.2.2
  have ce_pb0_0 : w4.cell? ⟨w.heap.size, 0, none⟩ = some (.slice A0_0 n0_0 c0_0) := pb0.cell 0
  have lt_pb0 : w.heap.size < w4.heap.size := pb0.lt
  go_wp2_with fail
  clear ce_pb0_0 lt_pb0
  -- what the program's function returns
  refine ((hI.out _ tA2_0 tc2_0 (ow2_0.alloc _).rd)).mono ?_
  rintro e w5 ⟨rfl, hb5'⟩
  obtain ⟨hb5, hz5, hx5_0⟩ := step_alloc hb5'
  have xb0 : Bx w5 (w4.heap.size) 53 #[.slice tA2_0 n0_0 tc2_0] := hx5_0; clear hx5_0
  replace pb0 := pb0.grow' hb5
  replace ow2_0 := ow2_0.grow' hb5
  replace HB := blift HB hb5 HB.size
  go_wp2_with fail
  -- they agree
  -- the arguments are as they were
  have ce_pb0_0 : w5.cell? ⟨w.heap.size, 0, none⟩ = some (.slice A0_0 n0_0 c0_0) := pb0.cell 0
  have lt_pb0 : w.heap.size < w5.heap.size := pb0.lt
  have ce_xb0_0 : w5.cell? ⟨w4.heap.size, 0, none⟩ = some (.slice tA2_0 n0_0 tc2_0) := xb0.cell 0
  have lt_xb0 : w4.heap.size < w5.heap.size := xb0.lt
  go_cut [26] (fun s wc => s = .bool false ∧ Below w5.heap.size w5 wc)
  case first =>
    go_region_with (first | (go_at_call 26; refine (toQueue_any A0_0 n0_0 c0_0 us0_0 _ (Rd.grow hr0_0 (by first | exact HB | exact HB.drew)) hn0_0 hb20_n0_0).mono ?_; rintro e wq ⟨tA3_0, tc3_0, rfl, ow3_0, hbq⟩; have yy0 := (hbq.cell (p := ⟨w4.heap.size, 0, none⟩) (by exact xb0.lt)).trans ce_xb0_0; have oo0 := (ow2_0.drew).grow' hbq) | (go_at_call 28; refine (eqQueue_any tA2_0 tA3_0 n0_0 tc2_0 tc3_0 us0_0 _ oo0.rd ow3_0.rd hn0_0).mono ?_; rintro e wp ⟨rfl, hbp⟩))
    all_goals
      go_wp2_with fail
      go_meet
      exact ⟨rfl, blift ((Below.refl _ _).drew.trans hbq) hbp (by exact hbq.size)⟩
  case rest =>
  obtain ⟨rfl, hbw⟩ := hcut
  clear ce_pb0_0 lt_pb0 ce_xb0_0 lt_xb0
  have hb6' := hbw; clear hbw
  have hb6 := hb6'; have hz6 := hb6.size
  replace pb0 := pb0.grow' hb6
  replace xb0 := xb0.grow' hb6
  replace ow2_0 := ow2_0.grow' hb6
  replace HB := blift HB hb6 HB.size
  obtain ⟨w6, hwn⟩ : ∃ wx : World, wx = wc := ⟨_, rfl⟩
  subst hwn
  go_wp2_with fail
  go_ret
  exact ⟨rfl, HB⟩
end Go.Proofs.Ytinenkjfdmajkaa

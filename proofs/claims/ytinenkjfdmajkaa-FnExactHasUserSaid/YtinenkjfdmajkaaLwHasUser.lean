/- The walk of FnExactHasUser, over the contracts of the two functions that it compares. No condition. -/
import Derived.Test.YtinenkjfdmajkaaCtFar
import Derived.Deep.DeepCutAuto
import Derived.Deep.RegionWith
namespace Go.Proofs.Ytinenkjfdmajkaa
open Go.RowKit
set_option linter.unusedVariables false

set_option maxHeartbeats 8000000 in
set_option maxRecDepth 100000 in
theorem fnExactHasUser_walk (A0_0 : Option Addr) (n0_0 c0_0 : Nat) (us0_0 : List User) (x0_1 : Int) (x0_2 : Int) (s1 : ByteArray) (s2 : ByteArray) (rb0 : Bool) (w : World) (hr0_0 : Rd w w.heap.size 2 A0_0 n0_0 c0_0 (us0_0.flatMap encUser)) (hn0_0 : us0_0.length = n0_0) (hf0_0 : ∀ u ∈ us0_0, UserFits u) (hs1 : s1.size ≤ maxLen) (hs2 : s2.size ≤ maxLen)
    (hS : Hid (∀ (W : World) (a0_0 : Option Addr) (d0_0 : Nat), Rd W W.heap.size 2 a0_0 n0_0 d0_0 (us0_0.flatMap encUser) → Calls Try.prog 29 #[.agg #[.slice a0_0 n0_0 d0_0, .int .i64 x0_1, .int .i64 x0_2], .string s1, .string s2] W fun e w' => e = .returned (.bool rb0) ∧ Below W.heap.size W w'))
    (hI : Hid (∀ (W : World) (a0_0 : Option Addr) (d0_0 : Nat), Rd W W.heap.size 2 a0_0 n0_0 d0_0 (us0_0.flatMap encUser) → Calls Try.prog 30 #[.agg #[.slice a0_0 n0_0 d0_0, .int .i64 x0_1, .int .i64 x0_2], .string s1, .string s2] W fun e w' => e = .returned (.bool rb0) ∧ Below W.heap.size W w')) :
    Calls Try.prog 7 #[.agg #[.slice A0_0 n0_0 c0_0, .int .i64 x0_1, .int .i64 x0_2], .string s1, .string s2] w fun e w' => e = .returned (.bool true) ∧ Below w.heap.size w w' := by
  by_cases hq1 : (1048576 : Int) < (s1.size : Int)
  · go_enter Try.func7, Try.ntmps7
    go_wp2_with fail
    go_ret
    exact ⟨rfl, by go_grown⟩
  replace hq1 : (s1.size : Int) ≤ 1048576 := by omega
  by_cases hq2 : (1048576 : Int) < (s2.size : Int)
  · go_enter Try.func7, Try.ntmps7
    go_wp2_with fail
    go_ret
    exact ⟨rfl, by go_grown⟩
  replace hq2 : (s2.size : Int) ≤ 1048576 := by omega
  go_enter Try.func7, Try.ntmps7
  go_wp2_with fail
  refine (szFar_any A0_0 n0_0 c0_0 us0_0 x0_1 x0_2 1048576 _ ((hr0_0).alloc _) hn0_0 (by omega) (by omega) hf0_0).mono ?_
  rintro e w1 ⟨rfl, hb1'⟩
  obtain ⟨hb1, hz1, hx1_0⟩ := step_alloc hb1'
  have pb0 : Bx w1 (w.heap.size) 37 #[.slice A0_0 n0_0 c0_0, .int .i64 x0_1, .int .i64 x0_2] := hx1_0; clear hx1_0
  have HB := hb1
  by_cases hx1 : leftOf 1048576 (n0_0 + sumUser us0_0) < 0
  · go_wp2_with fail
    go_ret
    exact ⟨rfl, HB⟩
  replace hx1 : 0 ≤ leftOf 1048576 (n0_0 + sumUser us0_0) := by omega
  have hl1 := leftOf_nn hx1
  have hb20_n0_0 : n0_0 ≤ 1048576 := by omega
  clear hl1
  have ce_pb0_0 : w1.cell? ⟨w.heap.size, 0, none⟩ = some (.slice A0_0 n0_0 c0_0) := pb0.cell 0
  have ce_pb0_1 : w1.cell? ⟨w.heap.size, 1, none⟩ = some (.int .i64 x0_1) := pb0.cell 1
  have ce_pb0_2 : w1.cell? ⟨w.heap.size, 2, none⟩ = some (.int .i64 x0_2) := pb0.cell 2
  go_wp2_with fail
  clear ce_pb0_0 ce_pb0_1 ce_pb0_2
  -- what the reference returns
  refine (toFar_any A0_0 n0_0 c0_0 us0_0 x0_1 x0_2 _ (hr0_0.grow HB) hn0_0 hb20_n0_0).mono ?_
  rintro e w2 ⟨tA1_0, tc1_0, rfl, ow1_0, hb2'⟩
  have hb2 := hb2'; have hz2 := hb2.size
  replace pb0 := pb0.grow' hb2
  replace HB := blift HB hb2 HB.size
  have hzo1_0 := ow1_0.2.2
  go_wp2_with fail
  refine ((hS.out _ tA1_0 tc1_0 ow1_0.rd)).mono ?_
  rintro e w3 ⟨rfl, hb3'⟩
  have hb3 := hb3'; have hz3 := hb3.size
  replace pb0 := pb0.grow' hb3
  replace ow1_0 := ow1_0.grow' hb3
  replace HB := blift HB hb3 HB.size
  clear ow1_0
  have ce_pb0_0 : w3.cell? ⟨w.heap.size, 0, none⟩ = some (.slice A0_0 n0_0 c0_0) := pb0.cell 0
  have ce_pb0_1 : w3.cell? ⟨w.heap.size, 1, none⟩ = some (.int .i64 x0_1) := pb0.cell 1
  have ce_pb0_2 : w3.cell? ⟨w.heap.size, 2, none⟩ = some (.int .i64 x0_2) := pb0.cell 2
  go_wp2_with fail
  clear ce_pb0_0 ce_pb0_1 ce_pb0_2
  -- the arguments of the program's function
  refine (toFar_any A0_0 n0_0 c0_0 us0_0 x0_1 x0_2 _ (hr0_0.grow HB) hn0_0 hb20_n0_0).mono ?_
  rintro e w4 ⟨tA2_0, tc2_0, rfl, ow2_0, hb4'⟩
  have hb4 := hb4'; have hz4 := hb4.size
  replace pb0 := pb0.grow' hb4
  replace HB := blift HB hb4 HB.size
  have hzo2_0 := ow2_0.2.2
  have ce_pb0_0 : w4.cell? ⟨w.heap.size, 0, none⟩ = some (.slice A0_0 n0_0 c0_0) := pb0.cell 0
  have ce_pb0_1 : w4.cell? ⟨w.heap.size, 1, none⟩ = some (.int .i64 x0_1) := pb0.cell 1
  have ce_pb0_2 : w4.cell? ⟨w.heap.size, 2, none⟩ = some (.int .i64 x0_2) := pb0.cell 2
  go_wp2_with fail
  clear ce_pb0_0 ce_pb0_1 ce_pb0_2
  -- what the program's function returns
  refine ((hI.out _ tA2_0 tc2_0 (ow2_0.alloc _).rd)).mono ?_
  rintro e w5 ⟨rfl, hb5'⟩
  obtain ⟨hb5, hz5, hx5_0⟩ := step_alloc hb5'
  have xb0 : Bx w5 (w4.heap.size) 42 #[.slice tA2_0 n0_0 tc2_0, .int .i64 x0_1, .int .i64 x0_2] := hx5_0; clear hx5_0
  replace pb0 := pb0.grow' hb5
  replace ow2_0 := ow2_0.grow' hb5
  replace HB := blift HB hb5 HB.size
  go_wp2_with fail
  -- they agree
  -- the arguments are as they were
  have ce_pb0_0 : w5.cell? ⟨w.heap.size, 0, none⟩ = some (.slice A0_0 n0_0 c0_0) := pb0.cell 0
  have ce_pb0_1 : w5.cell? ⟨w.heap.size, 1, none⟩ = some (.int .i64 x0_1) := pb0.cell 1
  have ce_pb0_2 : w5.cell? ⟨w.heap.size, 2, none⟩ = some (.int .i64 x0_2) := pb0.cell 2
  have ce_xb0_0 : w5.cell? ⟨w4.heap.size, 0, none⟩ = some (.slice tA2_0 n0_0 tc2_0) := xb0.cell 0
  have ce_xb0_1 : w5.cell? ⟨w4.heap.size, 1, none⟩ = some (.int .i64 x0_1) := xb0.cell 1
  have ce_xb0_2 : w5.cell? ⟨w4.heap.size, 2, none⟩ = some (.int .i64 x0_2) := xb0.cell 2
  go_cut [40] (fun s wc => s = .bool false ∧ Below w5.heap.size w5 wc)
  case first =>
    go_region_with (first | (go_at_call 21; refine (toFar_any A0_0 n0_0 c0_0 us0_0 x0_1 x0_2 _ (Rd.grow hr0_0 (by first | exact HB | exact HB.drew)) hn0_0 hb20_n0_0).mono ?_; rintro e wq ⟨tA3_0, tc3_0, rfl, ow3_0, hbq⟩; have yy0 := (hbq.cell (p := ⟨w4.heap.size, 0, none⟩) (by exact xb0.lt)).trans ce_xb0_0; have yy1 := (hbq.cell (p := ⟨w4.heap.size, 1, none⟩) (by exact xb0.lt)).trans ce_xb0_1; have yy2 := (hbq.cell (p := ⟨w4.heap.size, 2, none⟩) (by exact xb0.lt)).trans ce_xb0_2; have oo0 := (ow2_0.drew).grow' hbq) | (go_at_call 23; refine (eqFar_any tA2_0 tA3_0 n0_0 tc2_0 tc3_0 us0_0 x0_1 x0_2 _ oo0.rd ow3_0.rd hn0_0).mono ?_; rintro e wp ⟨rfl, hbp⟩))
    all_goals
      go_wp2_with fail
      go_meet
      exact ⟨rfl, blift ((Below.refl _ _).drew.trans hbq) hbp (by exact hbq.size)⟩
  case rest =>
  obtain ⟨rfl, hbw⟩ := hcut
  clear ce_pb0_0 ce_pb0_1 ce_pb0_2 ce_xb0_0 ce_xb0_1 ce_xb0_2
  have hb6' := hbw; clear hbw
  have hb6 := hb6'; have hz6 := hb6.size
  replace pb0 := pb0.grow' hb6
  replace xb0 := xb0.grow' hb6
  replace ow2_0 := ow2_0.grow' hb6
  replace HB := blift HB hb6 HB.size
  obtain ⟨w6, hwn⟩ : ∃ wx : World, wx = wc := ⟨_, rfl⟩
  subst hwn
  go_wp2_with fail
  go_ret
  exact ⟨rfl, HB⟩
end Go.Proofs.Ytinenkjfdmajkaa

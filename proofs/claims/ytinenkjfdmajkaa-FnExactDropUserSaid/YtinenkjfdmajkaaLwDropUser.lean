/- The walk of FnExactDropUser, over the contracts of the two functions that it compares. No condition. -/
import Derived.Test.YtinenkjfdmajkaaCtFar
import Derived.Deep.DeepCutAuto
import Derived.Deep.RegionWith
namespace Go.Proofs.Ytinenkjfdmajkaa
open Go.RowKit
set_option linter.unusedVariables false

set_option maxHeartbeats 8000000 in
set_option maxRecDepth 100000 in
theorem fnExactDropUser_walk (A0_0 : Option Addr) (n0_0 c0_0 : Nat) (us0_0 : List User) (x0_1 : Int) (x0_2 : Int) (s1 : ByteArray) (rs0_0 : List User) (ry0_1 : Int) (ry0_2 : Int) (ry1 : Int) (hrl0_0 : n0_0 ≤ 1048576 → rs0_0.length ≤ 1048576) (w : World) (hr0_0 : Rd w w.heap.size 2 A0_0 n0_0 c0_0 (us0_0.flatMap encUser)) (hn0_0 : us0_0.length = n0_0) (hf0_0 : ∀ u ∈ us0_0, UserFits u) (hs1 : s1.size ≤ maxLen)
    (hS : Hid (∀ (W : World) (a0_0 : Option Addr) (d0_0 : Nat), Rd W W.heap.size 2 a0_0 n0_0 d0_0 (us0_0.flatMap encUser) → n0_0 ≤ 1048576 → Calls Try.prog 41 #[.agg #[.slice a0_0 n0_0 d0_0, .int .i64 x0_1, .int .i64 x0_2], .string s1] W fun e w' => ∃ A0_0 c0_0 l0_0 h0_0, e = .returned (.tuple #[.agg #[.slice A0_0 rs0_0.length c0_0, .int .i64 ry0_1, .int .i64 ry0_2], .int .i64 ry1]) ∧ Own w' l0_0 h0_0 82 2 (.slice A0_0 rs0_0.length c0_0) rs0_0.length (rs0_0.flatMap encUser) ∧ W.heap.size ≤ l0_0 ∧ Below W.heap.size W w'))
    (hI : Hid (∀ (W : World) (a0_0 : Option Addr) (d0_0 : Nat), Rd W W.heap.size 2 a0_0 n0_0 d0_0 (us0_0.flatMap encUser) → n0_0 ≤ 1048576 → Calls Try.prog 42 #[.agg #[.slice a0_0 n0_0 d0_0, .int .i64 x0_1, .int .i64 x0_2], .string s1] W fun e w' => ∃ A0_0 c0_0 l0_0 h0_0, e = .returned (.tuple #[.agg #[.slice A0_0 rs0_0.length c0_0, .int .i64 ry0_1, .int .i64 ry0_2], .int .i64 ry1]) ∧ Own w' l0_0 h0_0 82 2 (.slice A0_0 rs0_0.length c0_0) rs0_0.length (rs0_0.flatMap encUser) ∧ W.heap.size ≤ l0_0 ∧ Below W.heap.size W w')) :
    Calls Try.prog 10 #[.agg #[.slice A0_0 n0_0 c0_0, .int .i64 x0_1, .int .i64 x0_2], .string s1] w fun e w' => e = .returned (.bool true) ∧ Below w.heap.size w w' := by
  by_cases hq1 : (1048576 : Int) < (s1.size : Int)
  · go_enter Try.func10, Try.ntmps10
    go_wp2_with fail
    go_ret
    exact ⟨rfl, by go_grown⟩
  replace hq1 : (s1.size : Int) ≤ 1048576 := by omega
  go_enter Try.func10, Try.ntmps10
  go_wp2_with fail
  refine (szFar_any A0_0 n0_0 c0_0 us0_0 x0_1 x0_2 1048576 _ ((hr0_0).alloc _) hn0_0 (by omega) (by omega) hf0_0).mono ?_
  rintro e w1 ⟨rfl, hb1'⟩
  obtain ⟨hb1, hz1, hx1_0⟩ := step_alloc hb1'
  have pb0 : Bx w1 (w.heap.size) 37 #[.slice A0_0 n0_0 c0_0, .int .i64 x0_1, .int .i64 x0_2] := hx1_0; clear hx1_0
  have HB := hb1
  by_cases hx1 : leftOf 1048576 (n0_0 + sumUser us0_0) < 0
  · go_wp2_with fail
    go_ret
    exact ⟨rfl, HB⟩
  replace hx1 : 0 ≤ leftOf 1048576 (n0_0 + sumUser us0_0) := by omega
  have hl1 := leftOf_nn hx1
  have hb20_n0_0 : n0_0 ≤ 1048576 := by omega
  clear hl1
  have ce_pb0_0 : w1.cell? ⟨w.heap.size, 0, none⟩ = some (.slice A0_0 n0_0 c0_0) := pb0.cell 0
  have ce_pb0_1 : w1.cell? ⟨w.heap.size, 1, none⟩ = some (.int .i64 x0_1) := pb0.cell 1
  have ce_pb0_2 : w1.cell? ⟨w.heap.size, 2, none⟩ = some (.int .i64 x0_2) := pb0.cell 2
  have lt_pb0 : w.heap.size < w1.heap.size := pb0.lt
  go_wp2_with fail
  clear ce_pb0_0 ce_pb0_1 ce_pb0_2 lt_pb0
  replace hrl0_0 := hrl0_0 hb20_n0_0
  -- what the reference returns
  refine (toFar_any A0_0 n0_0 c0_0 us0_0 x0_1 x0_2 _ (hr0_0.grow HB) hn0_0 hb20_n0_0).mono ?_
  rintro e w2 ⟨tA1_0, tc1_0, rfl, ow1_0, hb2'⟩
  have hb2 := hb2'; have hz2 := hb2.size
  replace pb0 := pb0.grow' hb2
  replace HB := blift HB hb2 HB.size
  have hzo1_0 := ow1_0.2.2
  go_wp2_with fail
  refine ((hS.out _ tA1_0 tc1_0 ow1_0.rd hb20_n0_0)).mono ?_
  rintro e w3 ⟨rA0_0, rc0_0, rl0_0, rh0_0, rfl, row0_0, rlb0_0, hb3'⟩
  have hb3 := hb3'; have hz3 := hb3.size
  replace pb0 := pb0.grow' hb3
  replace ow1_0 := ow1_0.grow' hb3
  replace HB := blift HB hb3 HB.size
  have rhz0_0 := row0_0.2.2
  clear ow1_0
  have ce_pb0_0 : w3.cell? ⟨w.heap.size, 0, none⟩ = some (.slice A0_0 n0_0 c0_0) := pb0.cell 0
  have ce_pb0_1 : w3.cell? ⟨w.heap.size, 1, none⟩ = some (.int .i64 x0_1) := pb0.cell 1
  have ce_pb0_2 : w3.cell? ⟨w.heap.size, 2, none⟩ = some (.int .i64 x0_2) := pb0.cell 2
  have lt_pb0 : w.heap.size < w3.heap.size := pb0.lt
  go_wp2_with fail
  clear ce_pb0_0 ce_pb0_1 ce_pb0_2 lt_pb0
  -- the arguments of the program's function
  refine (toFar_any A0_0 n0_0 c0_0 us0_0 x0_1 x0_2 _ ((hr0_0.grow HB).alloc _) hn0_0 hb20_n0_0).mono ?_
  rintro e w4 ⟨tA2_0, tc2_0, rfl, ow2_0, hb4'⟩
  simp only [World.size_alloc] at ow2_0
  obtain ⟨hb4, hz4, hx4_0⟩ := step_alloc hb4'
  have rb0 : Bx w4 (w3.heap.size) 42 #[.slice rA0_0 rs0_0.length rc0_0, .int .i64 ry0_1, .int .i64 ry0_2] := hx4_0; clear hx4_0
  replace pb0 := pb0.grow' hb4
  replace row0_0 := row0_0.grow' hb4
  replace HB := blift HB hb4 HB.size
  have hzo2_0 := ow2_0.2.2
  have ce_pb0_0 : w4.cell? ⟨w.heap.size, 0, none⟩ = some (.slice A0_0 n0_0 c0_0) := pb0.cell 0
  have ce_pb0_1 : w4.cell? ⟨w.heap.size, 1, none⟩ = some (.int .i64 x0_1) := pb0.cell 1
  have ce_pb0_2 : w4.cell? ⟨w.heap.size, 2, none⟩ = some (.int .i64 x0_2) := pb0.cell 2
  have lt_pb0 : w.heap.size < w4.heap.size := pb0.lt
  go_wp2_with fail
  clear ce_pb0_0 ce_pb0_1 ce_pb0_2 lt_pb0
  -- what the program's function returns
  refine ((hI.out _ tA2_0 tc2_0 (ow2_0.alloc _).rd hb20_n0_0)).mono ?_
  rintro e w5 ⟨gA0_0, gc0_0, gl0_0, gh0_0, rfl, gow0_0, glb0_0, hb5'⟩
  simp only [World.size_alloc] at glb0_0
  obtain ⟨hb5, hz5, hx5_0⟩ := step_alloc hb5'
  have xb0 : Bx w5 (w4.heap.size) 42 #[.slice tA2_0 n0_0 tc2_0, .int .i64 x0_1, .int .i64 x0_2] := hx5_0; clear hx5_0
  replace pb0 := pb0.grow' hb5
  replace rb0 := rb0.grow' hb5
  replace row0_0 := row0_0.grow' hb5
  replace ow2_0 := ow2_0.grow' hb5
  replace HB := blift HB hb5 HB.size
  have ghz0_0 := gow0_0.2.2
  have ce_rb0_0 : w5.cell? ⟨w3.heap.size, 0, none⟩ = some (.slice rA0_0 rs0_0.length rc0_0) := rb0.cell 0
  have ce_rb0_1 : w5.cell? ⟨w3.heap.size, 1, none⟩ = some (.int .i64 ry0_1) := rb0.cell 1
  have ce_rb0_2 : w5.cell? ⟨w3.heap.size, 2, none⟩ = some (.int .i64 ry0_2) := rb0.cell 2
  have lt_rb0 : w3.heap.size < w5.heap.size := rb0.lt
  go_wp2_with fail
  clear ce_rb0_0 ce_rb0_1 ce_rb0_2 lt_rb0
  -- they agree
  refine (eqFar_any gA0_0 rA0_0 rs0_0.length gc0_0 rc0_0 rs0_0 ry0_1 ry0_2 _ (gow0_0.alloc _).rd (row0_0.alloc _).rd rfl).mono ?_
  rintro e w6 ⟨rfl, hb6'⟩
  obtain ⟨hb6, hz6, hx6_0⟩ := step_alloc hb6'
  have gb0 : Bx w6 (w5.heap.size) 42 #[.slice gA0_0 rs0_0.length gc0_0, .int .i64 ry0_1, .int .i64 ry0_2] := hx6_0; clear hx6_0
  replace pb0 := pb0.grow' hb6
  replace rb0 := rb0.grow' hb6
  replace xb0 := xb0.grow' hb6
  replace row0_0 := row0_0.grow' hb6
  replace ow2_0 := ow2_0.grow' hb6
  replace gow0_0 := gow0_0.grow' hb6
  replace HB := blift HB hb6 HB.size
  have ce_rb0_0 : w6.cell? ⟨w3.heap.size, 0, none⟩ = some (.slice rA0_0 rs0_0.length rc0_0) := rb0.cell 0
  have ce_rb0_1 : w6.cell? ⟨w3.heap.size, 1, none⟩ = some (.int .i64 ry0_1) := rb0.cell 1
  have ce_rb0_2 : w6.cell? ⟨w3.heap.size, 2, none⟩ = some (.int .i64 ry0_2) := rb0.cell 2
  have lt_rb0 : w3.heap.size < w6.heap.size := rb0.lt
  go_wp2_with fail
  clear ce_rb0_0 ce_rb0_1 ce_rb0_2 lt_rb0
  -- the arguments are as they were
  have ce_pb0_0 : w6.cell? ⟨w.heap.size, 0, none⟩ = some (.slice A0_0 n0_0 c0_0) := pb0.cell 0
  have ce_pb0_1 : w6.cell? ⟨w.heap.size, 1, none⟩ = some (.int .i64 x0_1) := pb0.cell 1
  have ce_pb0_2 : w6.cell? ⟨w.heap.size, 2, none⟩ = some (.int .i64 x0_2) := pb0.cell 2
  have lt_pb0 : w.heap.size < w6.heap.size := pb0.lt
  have ce_xb0_0 : w6.cell? ⟨w4.heap.size, 0, none⟩ = some (.slice tA2_0 n0_0 tc2_0) := xb0.cell 0
  have ce_xb0_1 : w6.cell? ⟨w4.heap.size, 1, none⟩ = some (.int .i64 x0_1) := xb0.cell 1
  have ce_xb0_2 : w6.cell? ⟨w4.heap.size, 2, none⟩ = some (.int .i64 x0_2) := xb0.cell 2
  have lt_xb0 : w4.heap.size < w6.heap.size := xb0.lt
  go_cut [52] (fun s wc => s = .bool false ∧ Below w6.heap.size w6 wc)
  case first =>
    go_region_with (first | (go_at_call 21; refine (toFar_any A0_0 n0_0 c0_0 us0_0 x0_1 x0_2 _ (Rd.grow hr0_0 (by first | exact HB | exact HB.drew)) hn0_0 hb20_n0_0).mono ?_; rintro e wq ⟨tA3_0, tc3_0, rfl, ow3_0, hbq⟩; have yy0 := (hbq.cell (p := ⟨w4.heap.size, 0, none⟩) (by exact xb0.lt)).trans ce_xb0_0; have yy1 := (hbq.cell (p := ⟨w4.heap.size, 1, none⟩) (by exact xb0.lt)).trans ce_xb0_1; have yy2 := (hbq.cell (p := ⟨w4.heap.size, 2, none⟩) (by exact xb0.lt)).trans ce_xb0_2; have oo0 := (ow2_0.drew).grow' hbq) | (go_at_call 23; refine (eqFar_any tA2_0 tA3_0 n0_0 tc2_0 tc3_0 us0_0 x0_1 x0_2 _ oo0.rd ow3_0.rd hn0_0).mono ?_; rintro e wp ⟨rfl, hbp⟩))
    all_goals
      go_wp2_with fail
      go_meet
      exact ⟨rfl, blift ((Below.refl _ _).drew.trans hbq) hbp (by exact hbq.size)⟩
  case rest =>
  obtain ⟨rfl, hbw⟩ := hcut
  clear ce_pb0_0 ce_pb0_1 ce_pb0_2 lt_pb0 ce_xb0_0 ce_xb0_1 ce_xb0_2 lt_xb0
  have hb7' := hbw; clear hbw
  have hb7 := hb7'; have hz7 := hb7.size
  replace pb0 := pb0.grow' hb7
  replace rb0 := rb0.grow' hb7
  replace xb0 := xb0.grow' hb7
  replace gb0 := gb0.grow' hb7
  replace row0_0 := row0_0.grow' hb7
  replace ow2_0 := ow2_0.grow' hb7
  replace gow0_0 := gow0_0.grow' hb7
  replace HB := blift HB hb7 HB.size
  obtain ⟨w7, hwn⟩ : ∃ wx : World, wx = wc := ⟨_, rfl⟩
  subst hwn
  have ce_xb0_0 : w7.cell? ⟨w4.heap.size, 0, none⟩ = some (.slice tA2_0 n0_0 tc2_0) := xb0.cell 0
  have ce_xb0_1 : w7.cell? ⟨w4.heap.size, 1, none⟩ = some (.int .i64 x0_1) := xb0.cell 1
  have ce_xb0_2 : w7.cell? ⟨w4.heap.size, 2, none⟩ = some (.int .i64 x0_2) := xb0.cell 2
  have lt_xb0 : w4.heap.size < w7.heap.size := xb0.lt
  go_wp2_with fail
  clear ce_xb0_0 ce_xb0_1 ce_xb0_2 lt_xb0
  -- the arguments are marked: what was returned stands
  refine (markFar_any tA2_0 n0_0 tc2_0 ((us0_0.flatMap encUser)) x0_1 x0_2 1 (w3.heap.size + 1) (w4.heap.size) _ ow2_0 (by omega) (by omega)).mono ?_
  rintro e w8 ⟨rfl, mkow2_0, hc8⟩
  have hz8 := hc8.size
  replace pb0 := pb0.chg hc8 (by omega)
  replace rb0 := rb0.chg hc8 (by omega)
  replace xb0 := xb0.chg hc8 (by omega)
  replace gb0 := gb0.chg hc8 (by omega)
  replace row0_0 := row0_0.chg hc8 (by omega)
  replace gow0_0 := gow0_0.chg hc8 (by omega)
  replace HB := hc8.below HB (by omega) HB.size
  clear ow2_0; have ow2_0 := mkow2_0; clear mkow2_0
  have ce_xb0_0 : w8.cell? ⟨w4.heap.size, 0, none⟩ = some (.slice tA2_0 n0_0 tc2_0) := xb0.cell 0
  have ce_xb0_1 : w8.cell? ⟨w4.heap.size, 1, none⟩ = some (.int .i64 x0_1) := xb0.cell 1
  have ce_xb0_2 : w8.cell? ⟨w4.heap.size, 2, none⟩ = some (.int .i64 x0_2) := xb0.cell 2
  have lt_xb0 : w4.heap.size < w8.heap.size := xb0.lt
  have ce_gb0_0 : w8.cell? ⟨w5.heap.size, 0, none⟩ = some (.slice gA0_0 rs0_0.length gc0_0) := gb0.cell 0
  have ce_gb0_1 : w8.cell? ⟨w5.heap.size, 1, none⟩ = some (.int .i64 ry0_1) := gb0.cell 1
  have ce_gb0_2 : w8.cell? ⟨w5.heap.size, 2, none⟩ = some (.int .i64 ry0_2) := gb0.cell 2
  have lt_gb0 : w5.heap.size < w8.heap.size := gb0.lt
  have ce_rb0_0 : w8.cell? ⟨w3.heap.size, 0, none⟩ = some (.slice rA0_0 rs0_0.length rc0_0) := rb0.cell 0
  have ce_rb0_1 : w8.cell? ⟨w3.heap.size, 1, none⟩ = some (.int .i64 ry0_1) := rb0.cell 1
  have ce_rb0_2 : w8.cell? ⟨w3.heap.size, 2, none⟩ = some (.int .i64 ry0_2) := rb0.cell 2
  have lt_rb0 : w3.heap.size < w8.heap.size := rb0.lt
  go_wp2_with fail
  clear ce_xb0_0 ce_xb0_1 ce_xb0_2 lt_xb0 ce_gb0_0 ce_gb0_1 ce_gb0_2 lt_gb0 ce_rb0_0 ce_rb0_1 ce_rb0_2 lt_rb0
  clear ow2_0
  refine (eqFar_any gA0_0 rA0_0 rs0_0.length gc0_0 rc0_0 rs0_0 ry0_1 ry0_2 _ gow0_0.rd row0_0.rd rfl).mono ?_
  rintro e w9 ⟨rfl, hb9'⟩
  have hb9 := hb9'; have hz9 := hb9.size
  replace pb0 := pb0.grow' hb9
  replace rb0 := rb0.grow' hb9
  replace xb0 := xb0.grow' hb9
  replace gb0 := gb0.grow' hb9
  replace row0_0 := row0_0.grow' hb9
  replace gow0_0 := gow0_0.grow' hb9
  replace HB := blift HB hb9 HB.size
  have ce_gb0_0 : w9.cell? ⟨w5.heap.size, 0, none⟩ = some (.slice gA0_0 rs0_0.length gc0_0) := gb0.cell 0
  have ce_gb0_1 : w9.cell? ⟨w5.heap.size, 1, none⟩ = some (.int .i64 ry0_1) := gb0.cell 1
  have ce_gb0_2 : w9.cell? ⟨w5.heap.size, 2, none⟩ = some (.int .i64 ry0_2) := gb0.cell 2
  have lt_gb0 : w5.heap.size < w9.heap.size := gb0.lt
  have ce_rb0_0 : w9.cell? ⟨w3.heap.size, 0, none⟩ = some (.slice rA0_0 rs0_0.length rc0_0) := rb0.cell 0
  have ce_rb0_1 : w9.cell? ⟨w3.heap.size, 1, none⟩ = some (.int .i64 ry0_1) := rb0.cell 1
  have ce_rb0_2 : w9.cell? ⟨w3.heap.size, 2, none⟩ = some (.int .i64 ry0_2) := rb0.cell 2
  have lt_rb0 : w3.heap.size < w9.heap.size := rb0.lt
  go_wp2_with fail
  clear ce_gb0_0 ce_gb0_1 ce_gb0_2 lt_gb0 ce_rb0_0 ce_rb0_1 ce_rb0_2 lt_rb0
  -- what was returned is marked, and holds its marks
  refine (markFar_any gA0_0 rs0_0.length gc0_0 ((rs0_0.flatMap encUser)) ry0_1 ry0_2 1 (gl0_0) (gh0_0) _ gow0_0 (by omega) (by omega)).mono ?_
  rintro e w10 ⟨rfl, mkgow0_0, hc10⟩
  have hz10 := hc10.size
  replace pb0 := pb0.chg hc10 (by omega)
  replace rb0 := rb0.chg hc10 (by omega)
  replace xb0 := xb0.chg hc10 (by omega)
  replace gb0 := gb0.chg hc10 (by omega)
  replace row0_0 := row0_0.chg hc10 (by omega)
  replace HB := hc10.below HB (by omega) HB.size
  clear gow0_0; have gow0_0 := mkgow0_0; clear mkgow0_0
  have ce_gb0_0 : w10.cell? ⟨w5.heap.size, 0, none⟩ = some (.slice gA0_0 rs0_0.length gc0_0) := gb0.cell 0
  have ce_gb0_1 : w10.cell? ⟨w5.heap.size, 1, none⟩ = some (.int .i64 ry0_1) := gb0.cell 1
  have ce_gb0_2 : w10.cell? ⟨w5.heap.size, 2, none⟩ = some (.int .i64 ry0_2) := gb0.cell 2
  have lt_gb0 : w5.heap.size < w10.heap.size := gb0.lt
  go_wp2_with fail
  clear ce_gb0_0 ce_gb0_1 ce_gb0_2 lt_gb0
  refine (heldFar_any gA0_0 rs0_0.length gc0_0 ry0_1 ry0_2 1 _ gow0_0.rd (by omega) (by omega)).mono ?_
  rintro e w11 ⟨rfl, hb11'⟩
  have hb11 := hb11'; have hz11 := hb11.size
  replace pb0 := pb0.grow' hb11
  replace rb0 := rb0.grow' hb11
  replace xb0 := xb0.grow' hb11
  replace gb0 := gb0.grow' hb11
  replace row0_0 := row0_0.grow' hb11
  replace gow0_0 := gow0_0.grow' hb11
  replace HB := blift HB hb11 HB.size
  have ce_gb0_0 : w11.cell? ⟨w5.heap.size, 0, none⟩ = some (.slice gA0_0 rs0_0.length gc0_0) := gb0.cell 0
  have ce_gb0_1 : w11.cell? ⟨w5.heap.size, 1, none⟩ = some (.int .i64 ry0_1) := gb0.cell 1
  have ce_gb0_2 : w11.cell? ⟨w5.heap.size, 2, none⟩ = some (.int .i64 ry0_2) := gb0.cell 2
  have lt_gb0 : w5.heap.size < w11.heap.size := gb0.lt
  have ce_pb0_0 : w11.cell? ⟨w.heap.size, 0, none⟩ = some (.slice A0_0 n0_0 c0_0) := pb0.cell 0
  have ce_pb0_1 : w11.cell? ⟨w.heap.size, 1, none⟩ = some (.int .i64 x0_1) := pb0.cell 1
  have ce_pb0_2 : w11.cell? ⟨w.heap.size, 2, none⟩ = some (.int .i64 x0_2) := pb0.cell 2
  have lt_pb0 : w.heap.size < w11.heap.size := pb0.lt
  go_wp2_with fail
  clear ce_gb0_0 ce_gb0_1 ce_gb0_2 lt_gb0 ce_pb0_0 ce_pb0_1 ce_pb0_2 lt_pb0
  -- once more
  refine (toFar_any A0_0 n0_0 c0_0 us0_0 x0_1 x0_2 _ (hr0_0.grow HB) hn0_0 hb20_n0_0).mono ?_
  rintro e w12 ⟨tA4_0, tc4_0, rfl, ow4_0, hb12'⟩
  have hb12 := hb12'; have hz12 := hb12.size
  replace pb0 := pb0.grow' hb12
  replace rb0 := rb0.grow' hb12
  replace xb0 := xb0.grow' hb12
  replace gb0 := gb0.grow' hb12
  replace row0_0 := row0_0.grow' hb12
  replace gow0_0 := gow0_0.grow' hb12
  replace HB := blift HB hb12 HB.size
  have hzo4_0 := ow4_0.2.2
  have ce_pb0_0 : w12.cell? ⟨w.heap.size, 0, none⟩ = some (.slice A0_0 n0_0 c0_0) := pb0.cell 0
  have ce_pb0_1 : w12.cell? ⟨w.heap.size, 1, none⟩ = some (.int .i64 x0_1) := pb0.cell 1
  have ce_pb0_2 : w12.cell? ⟨w.heap.size, 2, none⟩ = some (.int .i64 x0_2) := pb0.cell 2
  have lt_pb0 : w.heap.size < w12.heap.size := pb0.lt
  go_wp2_with fail
  clear ce_pb0_0 ce_pb0_1 ce_pb0_2 lt_pb0
  refine ((hI.out _ tA4_0 tc4_0 ow4_0.rd hb20_n0_0)).mono ?_
  rintro e w13 ⟨hA0_0, hc0_0, hl0_0, hh0_0, rfl, how0_0, hlb0_0, hb13'⟩
  have hb13 := hb13'; have hz13 := hb13.size
  replace pb0 := pb0.grow' hb13
  replace rb0 := rb0.grow' hb13
  replace xb0 := xb0.grow' hb13
  replace gb0 := gb0.grow' hb13
  replace row0_0 := row0_0.grow' hb13
  replace gow0_0 := gow0_0.grow' hb13
  replace ow4_0 := ow4_0.grow' hb13
  replace HB := blift HB hb13 HB.size
  have hhz0_0 := how0_0.2.2
  clear ow4_0
  have ce_rb0_0 : w13.cell? ⟨w3.heap.size, 0, none⟩ = some (.slice rA0_0 rs0_0.length rc0_0) := rb0.cell 0
  have ce_rb0_1 : w13.cell? ⟨w3.heap.size, 1, none⟩ = some (.int .i64 ry0_1) := rb0.cell 1
  have ce_rb0_2 : w13.cell? ⟨w3.heap.size, 2, none⟩ = some (.int .i64 ry0_2) := rb0.cell 2
  have lt_rb0 : w3.heap.size < w13.heap.size := rb0.lt
  go_wp2_with fail
  clear ce_rb0_0 ce_rb0_1 ce_rb0_2 lt_rb0
  refine (eqFar_any hA0_0 rA0_0 rs0_0.length hc0_0 rc0_0 rs0_0 ry0_1 ry0_2 _ (how0_0.alloc _).rd (row0_0.alloc _).rd rfl).mono ?_
  rintro e w14 ⟨rfl, hb14'⟩
  obtain ⟨hb14, hz14, hx14_0⟩ := step_alloc hb14'
  have hb0 : Bx w14 (w13.heap.size) 42 #[.slice hA0_0 rs0_0.length hc0_0, .int .i64 ry0_1, .int .i64 ry0_2] := hx14_0; clear hx14_0
  replace pb0 := pb0.grow' hb14
  replace rb0 := rb0.grow' hb14
  replace xb0 := xb0.grow' hb14
  replace gb0 := gb0.grow' hb14
  replace row0_0 := row0_0.grow' hb14
  replace gow0_0 := gow0_0.grow' hb14
  replace how0_0 := how0_0.grow' hb14
  replace HB := blift HB hb14 HB.size
  have ce_gb0_0 : w14.cell? ⟨w5.heap.size, 0, none⟩ = some (.slice gA0_0 rs0_0.length gc0_0) := gb0.cell 0
  have ce_gb0_1 : w14.cell? ⟨w5.heap.size, 1, none⟩ = some (.int .i64 ry0_1) := gb0.cell 1
  have ce_gb0_2 : w14.cell? ⟨w5.heap.size, 2, none⟩ = some (.int .i64 ry0_2) := gb0.cell 2
  have lt_gb0 : w5.heap.size < w14.heap.size := gb0.lt
  have ce_rb0_0 : w14.cell? ⟨w3.heap.size, 0, none⟩ = some (.slice rA0_0 rs0_0.length rc0_0) := rb0.cell 0
  have ce_rb0_1 : w14.cell? ⟨w3.heap.size, 1, none⟩ = some (.int .i64 ry0_1) := rb0.cell 1
  have ce_rb0_2 : w14.cell? ⟨w3.heap.size, 2, none⟩ = some (.int .i64 ry0_2) := rb0.cell 2
  have lt_rb0 : w3.heap.size < w14.heap.size := rb0.lt
  go_wp2_with fail
  clear ce_gb0_0 ce_gb0_1 ce_gb0_2 lt_gb0 ce_rb0_0 ce_rb0_1 ce_rb0_2 lt_rb0
  refine (heldFar_any gA0_0 rs0_0.length gc0_0 ry0_1 ry0_2 1 _ gow0_0.rd (by omega) (by omega)).mono ?_
  rintro e w15 ⟨rfl, hb15'⟩
  have hb15 := hb15'; have hz15 := hb15.size
  replace pb0 := pb0.grow' hb15
  replace rb0 := rb0.grow' hb15
  replace xb0 := xb0.grow' hb15
  replace gb0 := gb0.grow' hb15
  replace hb0 := hb0.grow' hb15
  replace row0_0 := row0_0.grow' hb15
  replace gow0_0 := gow0_0.grow' hb15
  replace how0_0 := how0_0.grow' hb15
  replace HB := blift HB hb15 HB.size
  have ce_gb0_0 : w15.cell? ⟨w5.heap.size, 0, none⟩ = some (.slice gA0_0 rs0_0.length gc0_0) := gb0.cell 0
  have ce_gb0_1 : w15.cell? ⟨w5.heap.size, 1, none⟩ = some (.int .i64 ry0_1) := gb0.cell 1
  have ce_gb0_2 : w15.cell? ⟨w5.heap.size, 2, none⟩ = some (.int .i64 ry0_2) := gb0.cell 2
  have lt_gb0 : w5.heap.size < w15.heap.size := gb0.lt
  have ce_pb0_0 : w15.cell? ⟨w.heap.size, 0, none⟩ = some (.slice A0_0 n0_0 c0_0) := pb0.cell 0
  have ce_pb0_1 : w15.cell? ⟨w.heap.size, 1, none⟩ = some (.int .i64 x0_1) := pb0.cell 1
  have ce_pb0_2 : w15.cell? ⟨w.heap.size, 2, none⟩ = some (.int .i64 x0_2) := pb0.cell 2
  have lt_pb0 : w.heap.size < w15.heap.size := pb0.lt
  go_wp2_with fail
  clear ce_gb0_0 ce_gb0_1 ce_gb0_2 lt_gb0 ce_pb0_0 ce_pb0_1 ce_pb0_2 lt_pb0
  go_ret
  exact ⟨rfl, HB⟩
end Go.Proofs.Ytinenkjfdmajkaa

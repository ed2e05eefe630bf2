/- External systems: the program's drop. No condition. -/
import Derived.Test.YtnhdpcmnnjgdkaaFarD
import Derived.Test.YtnhdpcmnnjgdkaaDel
set_option linter.unusedVariables false
set_option linter.unusedSimpArgs false
namespace Go.Proofs.Ytnhdpcmnnjgdkaa
open Go.RowKit
set_option linter.unusedVariables false

theorem cellA {W : World} {o : Obj} {b j : Nat} (h : b < W.heap.size) : (W.alloc o).cell? ⟨b, j, none⟩ = W.cell? ⟨b, j, none⟩ := (below_alloc W o).cell h
theorem sizeSet (W : World) (a : Addr) (v : Value) : (W.setCell a v).heap.size = W.heap.size := by simp [World.setCell]

set_option maxHeartbeats 4000000 in
set_option maxRecDepth 10000 in
theorem dropUser_any (A : Option Addr) (n c : Nat) (us : List User) (fail made : Int) (s : ByteArray) (rs : List User) (rf rc : Int) (hq : farOk us fail made = true) (hd : dropU us fail made s = ⟨rs, rf, rc⟩) (w : World) (hr : Rd w w.heap.size 2 A n c (us.flatMap encUser)) (hn : us.length = n) (hf : ∀ u ∈ us, UserFits u) (hb20 : n ≤ 1048576) (hfail : -9223372036854775808 ≤ fail ∧ fail ≤ 9223372036854775807) :
    Calls Try.prog 45 #[.agg #[.slice A n c, .int .i64 fail, .int .i64 made], .string s] w fun e w' => DropF w rs rf made rc e w' := by
  have hc := hr.2.1
  have hm := hr.2.2.1
  unfold maxLen at hm
  have HD := Lib.hid hd; clear hd
  go_enter Try.func45, Try.ntmps45
  go_wp2_with fail
  refine (cloneFar_any A n c us fail made _ ((hr.alloc _).alloc _) hn hb20).mono ?_
  rintro e w1 ⟨A1, c1, rfl, own1, hb1'⟩
  obtain ⟨hbt, -, hx1⟩ := step_alloc hb1'
  obtain ⟨hb1, hz1', hx0⟩ := step_alloc hbt
  simp only [World.size_alloc] at hx1 own1
  have bx0 : Bx w1 w.heap.size 29 #[.slice A n c, .int .i64 fail, .int .i64 made] := hx0
  have bx1 : Bx w1 (w.heap.size + 1) 29 #[.slice none 0 0, .int .i64 0, .int .i64 0] := hx1
  have a0 : w1.cell? ⟨w.heap.size, 0, none⟩ = some (.slice A n c) := bx0.cell 0
  have a1 : w1.cell? ⟨w.heap.size, 1, none⟩ = some (.int .i64 fail) := bx0.cell 1
  have a2 : w1.cell? ⟨w.heap.size, 2, none⟩ = some (.int .i64 made) := bx0.cell 2
  have b0 : w1.cell? ⟨w.heap.size + 1, 0, none⟩ = some (.slice none 0 0) := bx1.cell 0
  have b1 : w1.cell? ⟨w.heap.size + 1, 1, none⟩ = some (.int .i64 0) := bx1.cell 1
  have b2 : w1.cell? ⟨w.heap.size + 1, 2, none⟩ = some (.int .i64 0) := bx1.cell 2
  have f0 := bx1.frozen 0
  have f1 := bx1.frozen 1
  have f2 := bx1.frozen 2
  have lt1 := bx1.lt
  clear hx0 hx1 hbt hb1'
  by_cases hfl : 0 < fail
  · have HD2 : Hid ((⟨us, fail - 1, 2⟩ : DropR) = ⟨rs, rf, rc⟩) := by have := HD.out; rwa [dropU, hq, if_pos rfl, if_pos hfl] at this
    have HO := Lib.hid own1; clear own1
    have HBH := Lib.hid hb1; clear hb1
    go_wp2_with fail
    obtain ⟨rfl, rfl, rfl⟩ := DropR.mk.inj HD2.out
    subst hn
    refine bodyPost_ret (v := .tuple #[.agg #[.slice A1 us.length c1, .int .i64 (fail - 1), .int .i64 made], .int .i64 2]) (by simp [results, Try.results45, go_sem, cellA, lt1, b0, b1, b2]) rfl ⟨A1, c1, w.heap.size + 1 + 1, w1.heap.size, rfl, ?_, by omega, ?_⟩
    · have HO' := HO.out
      refine Own.alloc ?_ _
      repeat (first | (with_reducible exact HO') | ((with_reducible refine Own.set_far ?_ ?_ _); rotate_left; omega))
    · have HB' := HBH.out
      refine Below.alloc ?_ (by rw [sizeSet, sizeSet, sizeSet]; omega) _
      repeat (first | (with_reducible exact HB') | ((with_reducible refine below_set ?_ ?_ _); rotate_left; omega))
  · have HD2 : Hid ((⟨keepU s us, fail, 0⟩ : DropR) = ⟨rs, rf, rc⟩) := by have := HD.out; rwa [dropU, hq, if_pos rfl, if_neg hfl] at this
    have hri := farOk_rises hq
    have HRi := Lib.hid hri; clear hri
    go_wp2_with fail
    clear a0 a1 a2 b0 b1 b2 f0 f1 f2
    refine (userIndex_any A n c us fail made s _ ((hr.grow hb1).alloc _) hn hb20 HRi.out).mono ?_
    rintro e w2 ⟨rfl, hb2'⟩
    obtain ⟨hb2, hz2', hx2⟩ := step_alloc hb2'
    have bx2 : Bx w2 w1.heap.size 29 #[.slice A1 n c1, .int .i64 fail, .int .i64 made] := hx2
    clear hx2 hb2'
    replace bx0 := bx0.grow' hb2
    replace bx1 := bx1.grow' hb2
    replace own1 := own1.grow' hb2
    have HB := blift hb1 hb2 hb1.size
    clear hb2 hb1
    cases hh : bsHit (cfU s) us with
    | false =>
      have HK : Hid (keepU s us = us) := keep_miss HRi.out hh
      have b0 : w2.cell? ⟨w.heap.size + 1, 0, none⟩ = some (.slice none 0 0) := bx1.cell 0
      have b1 : w2.cell? ⟨w.heap.size + 1, 1, none⟩ = some (.int .i64 0) := bx1.cell 1
      have b2 : w2.cell? ⟨w.heap.size + 1, 2, none⟩ = some (.int .i64 0) := bx1.cell 2
      have d0 : w2.cell? ⟨w1.heap.size, 0, none⟩ = some (.slice A1 n c1) := bx2.cell 0
      have d1 : w2.cell? ⟨w1.heap.size, 1, none⟩ = some (.int .i64 fail) := bx2.cell 1
      have d2 : w2.cell? ⟨w1.heap.size, 2, none⟩ = some (.int .i64 made) := bx2.cell 2
      have f0 := bx1.frozen 0
      have f1 := bx1.frozen 1
      have f2 := bx1.frozen 2
      have HO := Lib.hid own1; clear own1
      have HBH := Lib.hid HB; clear HB
      generalize bsAt (cfU s) us = i at *
      go_wp2_with fail
      obtain ⟨rfl, rfl, rfl⟩ := DropR.mk.inj HD2.out
      rw [HK.out]
      subst hn
      refine bodyPost_ret (v := .tuple #[.agg #[.slice A1 us.length c1, .int .i64 fail, .int .i64 made], .int .i64 0]) (by simp [results, Try.results45, go_sem, b0, b1, b2]) rfl ⟨A1, c1, w.heap.size + 1 + 1, w1.heap.size, rfl, ?_, by omega, ?_⟩
      · have HO' := HO.out
        repeat (first | (with_reducible exact HO') | ((with_reducible refine Own.set_far ?_ ?_ _); rotate_left; omega))
      · have HB' := HBH.out
        repeat (first | (with_reducible exact HB') | ((with_reducible refine below_set ?_ ?_ _); rotate_left; omega))
    | true =>
      have HK : Hid (keepU s us = us.eraseIdx (bsAt (cfU s) us)) := keep_hit HRi.out hh
      obtain ⟨hil, -⟩ := bsHit_at hh
      have d0 : w2.cell? ⟨w1.heap.size, 0, none⟩ = some (.slice A1 n c1) := bx2.cell 0
      obtain ⟨g, rfl, hg1, hg2⟩ := own1.at_ (by omega)
      rw [hn] at hil
      generalize hib : bsAt (cfU s) us = i at *
      clear hib
      go_wp2_with fail
      clear d0
      refine (deleteUser_any g n c1 i _ _ us _ own1 hn hil).mono ?_
      rintro e w3 ⟨rfl, own3, hc3⟩
      replace bx1 := bx1.chg hc3 (by omega)
      replace bx2 := bx2.chg hc3 (by omega)
      have HB3 := hc3.below HB (by omega) HB.size
      clear HB own1 hc3
      have hl3 := own3.2.2
      have b0 : w3.cell? ⟨w.heap.size + 1, 0, none⟩ = some (.slice none 0 0) := bx1.cell 0
      have b1 : w3.cell? ⟨w.heap.size + 1, 1, none⟩ = some (.int .i64 0) := bx1.cell 1
      have b2 : w3.cell? ⟨w.heap.size + 1, 2, none⟩ = some (.int .i64 0) := bx1.cell 2
      have d0 : w3.cell? ⟨w1.heap.size, 0, none⟩ = some (.slice (some ⟨g, 0, none⟩) n c1) := bx2.cell 0
      have d1 : w3.cell? ⟨w1.heap.size, 1, none⟩ = some (.int .i64 fail) := bx2.cell 1
      have d2 : w3.cell? ⟨w1.heap.size, 2, none⟩ = some (.int .i64 made) := bx2.cell 2
      have f0 := bx1.frozen 0
      have f1 := bx1.frozen 1
      have f2 := bx1.frozen 2
      have f3 := bx2.frozen 0
      have HLE : Hid ((us.eraseIdx i).length = n - 1) := by show _ = _; rw [List.length_eraseIdx, hn, if_pos hil]
      have HO := Lib.hid own3; clear own3
      have HBH := Lib.hid HB3; clear HB3
      go_wp2_with fail
      obtain ⟨rfl, rfl, rfl⟩ := DropR.mk.inj HD2.out
      rw [HK.out]
      refine bodyPost_ret (v := .tuple #[.agg #[.slice (some ⟨g, 0, none⟩) (n - 1) c1, .int .i64 fail, .int .i64 made], .int .i64 0]) (by simp [results, Try.results45, go_sem, b0, b1, b2]) rfl ?_
      unfold DropF
      rw [HLE.out]
      refine ⟨some ⟨g, 0, none⟩, c1, w.heap.size + 1 + 1, w1.heap.size, rfl, ?_, by omega, ?_⟩
      · have HO' := HO.out
        repeat (first | (with_reducible exact HO') | ((with_reducible refine Own.set_far ?_ ?_ _); rotate_left; omega))
      · have HB' := HBH.out
        repeat (first | (with_reducible exact HB') | ((with_reducible refine below_set ?_ ?_ _); rotate_left; omega))

end Go.Proofs.Ytnhdpcmnnjgdkaa

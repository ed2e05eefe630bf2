/- The walk of FnExactFarOk: whatever the external system, true. No condition. -/
import Derived.Test.YtinenkjfdmajkaaFarB
namespace Go.Proofs.Ytinenkjfdmajkaa
open Go.RowKit

set_option maxHeartbeats 1000000 in
theorem lawFarOk (A : Option Addr) (n c : Nat) (us : List User) (fail made : Int) (w : World) (hr : Rd w w.heap.size 2 A n c (us.flatMap encU)) (hn : us.length = n) (hs1 : ∀ u ∈ us, u.name.size ≤ maxLen) (hs2 : ∀ u ∈ us, u.pass.size ≤ maxLen) :
    Calls Try.prog 5 #[.agg #[.slice A n c, .int .i64 fail, .int .i64 made]] w fun e w' => e = .returned (.bool true) ∧ Below w.heap.size w w' := by
  have hB0 : ∀ o, Below w.heap.size w (w.alloc o) := fun o => (Below.refl _ _).alloc (Nat.le_refl _) _
  go_enter Try.func5, Try.ntmps5
  go_wp2_with fail
  refine (szFar_any A n c us fail made 1048576 _ ((hr.below (hB0 _) (Nat.le_refl _)).more (by simp)) hn (by omega) (by omega) hs1 hs2).mono ?_
  rintro e w1 ⟨rfl, hb1⟩
  have hB1 := (hB0 (.cells #[.slice A n c, .int .i64 fail, .int .i64 made] 37)).trans (hb1.mono (by simp))
  by_cases hx : leftOf 1048576 (n + sumU us) < 0
  · go_wp2_with fail
    go_ret
    exact ⟨rfl, hB1⟩
  have hx' := leftOf_nn (by omega : 0 ≤ leftOf 1048576 (n + sumU us))
  have hn20 : n ≤ 1048576 := by omega
  clear hx'
  simp only [World.size_alloc] at hb1
  have hz1 : w.heap.size + 1 ≤ w1.heap.size := by have := hb1.size; simpa using this
  -- the argument's box, in whatever later world
  have hbox : ∀ W, Below (w.heap.size + 1) w1 W → W.cell? ⟨w.heap.size, 0, none⟩ = some (.slice A n c) ∧ W.cell? ⟨w.heap.size, 1, none⟩ = some (.int .i64 fail) ∧ W.cell? ⟨w.heap.size, 2, none⟩ = some (.int .i64 made) := fun W h => by
    have h' := hb1.trans h
    exact ⟨(h'.cell (p := ⟨_, 0, none⟩) (Nat.lt_succ_self _)).trans (by simp [go_sem]), (h'.cell (p := ⟨_, 1, none⟩) (Nat.lt_succ_self _)).trans (by simp [go_sem]), (h'.cell (p := ⟨_, 2, none⟩) (Nat.lt_succ_self _)).trans (by simp [go_sem])⟩
  have hrd : ∀ W, Below w.heap.size w W → Rd W W.heap.size 2 A n c (us.flatMap encU) := fun W h => (hr.below h (Nat.le_refl _)).more h.size
  obtain ⟨p0, p1, p2⟩ := hbox w1 (Below.refl _ _)
  clear hb1
  go_wp2_with fail
  -- w0 := spec.FarOk(toFar(aF))
  refine (toFar_any A n c us fail made w1 (hrd _ hB1) hn hn20).mono ?_
  rintro e w2 ⟨A2, c2, rfl, own2, hb2⟩
  have hB2 := blift hB1 hb2 (by omega)
  clear p0 p1 p2
  go_wp2_with fail
  refine (specFarOk_any A2 n c2 us fail made w2 (own_rdn own2) hn hs1).mono ?_
  rintro e w3 ⟨rfl, hb3⟩
  have hB3 := blift hB2 hb3 hB2.size
  obtain ⟨p0, p1, p2⟩ := hbox w3 ((hb2.mono (by omega)).trans (hb3.mono (by have := hb2.size; omega)))
  go_wp2_with fail
  -- x0 := toFar(aF)
  refine (toFar_any A n c us fail made w3 (hrd _ hB3) hn hn20).mono ?_
  rintro e w4 ⟨A4, c4, rfl, own4, hb4⟩
  have hB4 := blift hB3 hb4 hB3.size
  have hz4 : w.heap.size + 1 ≤ w4.heap.size := by have := hb2.size; have := hb3.size; have := hb4.size; omega
  clear p0 p1 p2 own2
  go_wp2_with fail
  -- g0 := impl.FarOk(x0)
  refine (implFarOk_any A4 n c4 us fail made _ (((own_rdn own4).below ((Below.refl _ _).alloc (Nat.le_refl _) _) (Nat.le_refl _)).more (by simp)) hn hs1).mono ?_
  rintro e w5 ⟨rfl, hb5⟩
  simp only [World.size_alloc] at hb5
  have hb45 : Below w4.heap.size w4 w5 := ((Below.refl _ _).alloc (Nat.le_refl _) _).trans (hb5.mono (by omega))
  have hB5 := blift hB4 hb45 hB4.size
  have own5 := own_grow own4 hb45
  have hz5 : w4.heap.size + 1 ≤ w5.heap.size := by have := hb5.size; simpa using this
  obtain ⟨p0, p1, p2⟩ := hbox w5 ((hb2.mono (by omega)).trans ((hb3.mono (by have := hb2.size; omega)).trans ((hb4.mono (by have := hb2.size; have := hb3.size; omega)).trans (hb45.mono (by omega)))))
  have x0 : w5.cell? ⟨w4.heap.size, 0, none⟩ = some (.slice A4 n c4) := (hb5.cell (p := ⟨_, 0, none⟩) (Nat.lt_succ_self _)).trans (by simp [go_sem])
  have x1 : w5.cell? ⟨w4.heap.size, 1, none⟩ = some (.int .i64 fail) := (hb5.cell (p := ⟨_, 1, none⟩) (Nat.lt_succ_self _)).trans (by simp [go_sem])
  have x2 : w5.cell? ⟨w4.heap.size, 2, none⟩ = some (.int .i64 made) := (hb5.cell (p := ⟨_, 2, none⟩) (Nat.lt_succ_self _)).trans (by simp [go_sem])
  clear hb5 hb45 hb4 hb3 hb2 hbox own4 hB4 hB3 hB2 hB1
  go_wp2_with fail
  -- eqFar(x0, toFar(aF))
  have hnn : (farOk us fail made != farOk us fail made) = false := by simp
  go_wp2_with fail
  have hz5' : w.heap.size < w5.heap.size := by omega
  go_region_with (first
    | (go_at_call 21; refine (toFar_any A n c us fail made _ (hrd _ (by first | exact hB5 | exact hB5.drew)) hn hn20).mono ?_; rintro e w6 ⟨A6, c6, rfl, own6, hb6⟩; have y0 := (hb6.cell (p := ⟨w4.heap.size, 0, none⟩) (by exact hz5)).trans x0; have y1 := (hb6.cell (p := ⟨w4.heap.size, 1, none⟩) (by exact hz5)).trans x1; have y2 := (hb6.cell (p := ⟨w4.heap.size, 2, none⟩) (by exact hz5)).trans x2; have own56 := own_grow own5.drew hb6)
    | (go_at_call 23; refine (eqFar_any A4 A6 n c4 c6 us fail made _ (own_rdn own56) (own_rdn own6) hn).mono ?_; rintro e w7 ⟨rfl, hb7⟩))
  all_goals
    go_wp2
    go_ret
    exact ⟨rfl, blift (blift hB5.drew hb6 (by exact hB5.size)) hb7 (Nat.le_trans hB5.size (by exact hb6.size))⟩
end Go.Proofs.Ytinenkjfdmajkaa

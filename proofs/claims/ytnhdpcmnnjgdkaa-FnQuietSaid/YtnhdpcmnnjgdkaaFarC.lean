/- External systems: where a user stands; copies. No condition. -/
import Derived.Test.YtnhdpcmnnjgdkaaDropP
import Derived.Test.YtnhdpcmnnjgdkaaM1
import Derived.Test.YtnhdpcmnnjgdkaaSlUser
import Derived.Test.YtnhdpcmnnjgdkaaFarA
import Derived.Deep.RegionHeldLaw
set_option linter.unusedVariables false
set_option linter.unusedSimpArgs false
namespace Go.Proofs.Ytnhdpcmnnjgdkaa
open Go.RowKit
set_option linter.unusedVariables false
theorem take_flat_snocU {α : Type} {enc : α → List Value} {us : List α} {k : Nat} (h : k < us.length) : (us.take k).flatMap enc ++ enc us[k] = (us.take (k + 1)).flatMap enc := by
  rw [List.take_succ_eq_append_getElem h, List.flatMap_append]; congr 1; exact (List.append_nil _).symm

theorem userIndex1_any (x : User) (s : ByteArray) (w : World) :
    Calls Try.prog 59 #[.agg #[.string x.name, .string x.pass], .string s] w fun e w' => e = .returned (.int .i64 (cfU s x)) ∧ Below w.heap.size w w' := by
  go_enter Try.func59, Try.ntmps59
  go_wp2_with (go_at_call 60; refine (Go.Proofs.Try.strings_Compare _ _ _).mono ?_; rintro e w' ⟨rfl, rfl⟩)
  go_ret
  exact ⟨rfl, below_alloc _ _⟩

set_option maxHeartbeats 1000000 in
theorem userIndex_any (A : Option Addr) (n c : Nat) (us : List User) (fail made : Int) (s : ByteArray) (w : World) (hr : Rd w w.heap.size 2 A n c (us.flatMap encUser)) (hn : us.length = n) (hb20 : n ≤ 1048576) (hri : Rises (us.map (·.name))) :
    Calls Try.prog 54 #[.agg #[.slice A n c, .int .i64 fail, .int .i64 made], .string s] w fun e w' => e = .returned (.tuple #[.int .i64 (bsAt (cfU s) us : Nat), .bool (bsHit (cfU s) us)]) ∧ Below w.heap.size w w' := by
  have eg := enters_of (P := Try.prog) Try.func59 (by kernel_rfl) rfl
  go_enter Try.func54, Try.ntmps54
  go_wp2_with fail
  refine (bsUser_any 59 #[] s (cfU s) eg A n c us _ (fun W x hb => userIndex1_any x s W) (hr.alloc _) hn hb20 (cfU_mono hri s)).mono ?_
  rintro e w1 ⟨rfl, hb1'⟩
  obtain ⟨hb1, -, -⟩ := step_alloc hb1'
  go_wp2_with fail
  exact bodyPost_ret (v := .tuple #[.int .i64 (bsAt (cfU s) us : Nat), .bool (bsHit (cfU s) us)]) (by simp [results, Try.results54, go_sem]) rfl ⟨rfl, hb1⟩

set_option maxHeartbeats 4000000 in
set_option maxRecDepth 10000 in
theorem cloneFar_any (A : Option Addr) (n c : Nat) (us : List User) (fail made : Int) (w : World) (hr : Rd w w.heap.size 2 A n c (us.flatMap encUser)) (hn : us.length = n) (hb20 : n ≤ 1048576) :
    Calls Try.prog 23 #[.agg #[.slice A n c, .int .i64 fail, .int .i64 made]] w fun e w' => ∃ A' c', e = .returned (.agg #[.slice A' n c', .int .i64 fail, .int .i64 made]) ∧ Own w' w.heap.size w'.heap.size 53 2 (.slice A' n c') n (us.flatMap encUser) ∧ Below w.heap.size w w' := by
  go_enter Try.func23, Try.ntmps23
  go_wp2_with fail
  refine (cloneUser_any A n c us _ ((hr.alloc _).alloc _) hn hb20).mono ?_
  rintro e w1 ⟨A1, c1, rfl, own1, hb1'⟩
  obtain ⟨hbt, -, hx1⟩ := step_alloc hb1'
  obtain ⟨hb1, hz1, hx0⟩ := step_alloc hbt
  simp only [World.size_alloc] at hx1 own1
  have bx0 : Bx w1 w.heap.size 29 #[.slice A n c, .int .i64 fail, .int .i64 made] := hx0
  have bx1 : Bx w1 (w.heap.size + 1) 29 #[.slice none 0 0, .int .i64 0, .int .i64 0] := hx1
  have a0 : w1.cell? ⟨w.heap.size, 0, none⟩ = some (.slice A n c) := bx0.cell 0
  have a1 : w1.cell? ⟨w.heap.size, 1, none⟩ = some (.int .i64 fail) := bx0.cell 1
  have a2 : w1.cell? ⟨w.heap.size, 2, none⟩ = some (.int .i64 made) := bx0.cell 2
  have b0 : w1.cell? ⟨w.heap.size + 1, 0, none⟩ = some (.slice none 0 0) := bx1.cell 0
  have b1 : w1.cell? ⟨w.heap.size + 1, 1, none⟩ = some (.int .i64 0) := bx1.cell 1
  have b2 : w1.cell? ⟨w.heap.size + 1, 2, none⟩ = some (.int .i64 0) := bx1.cell 2
  have f0 := bx0.frozen 0
  have f1 := bx1.frozen 0
  have f2 := bx1.frozen 1
  have f3 := bx1.frozen 2
  have lt1 := bx1.lt
  have HO := Lib.hid own1; clear own1
  have HB := Lib.hid hb1; clear hb1 hbt hb1' hx0 hx1
  go_wp2_with fail
  refine bodyPost_ret (v := .agg #[.slice A1 n c1, .int .i64 fail, .int .i64 made]) (by simp [results, Try.results23, go_sem, b0, b1, b2]) rfl ⟨_, _, rfl, ?_, ?_⟩
  · refine Own.mono (lo := w.heap.size + 1 + 1) (hi := w1.heap.size) ?_ (by omega) (by simp [World.setCell]) (Nat.le_refl _)
    have HO' := HO.out
    repeat (first | (with_reducible exact HO') | ((with_reducible refine Own.set_far ?_ ?_ _); rotate_left; (left; omega)))
  · have HB' := HB.out
    repeat (first | (with_reducible exact HB') | ((with_reducible refine below_set ?_ ?_ _); rotate_left; omega))
set_option maxHeartbeats 4000000 in
set_option maxRecDepth 10000 in
theorem l11Copy_any (A : Option Addr) (n c : Nat) (us : List User) (fail made : Int) (w : World) (hr : Rd w w.heap.size 2 A n c (us.flatMap encUser)) (hn : us.length = n) (hb20 : n ≤ 1048576) :
    Calls Try.prog 39 #[.agg #[.slice A n c, .int .i64 fail, .int .i64 made]] w fun e w' => ∃ A' c', e = .returned (.agg #[.slice A' n c', .int .i64 fail, .int .i64 made]) ∧ Own w' w.heap.size w'.heap.size 53 2 (.slice A' n c') n (us.flatMap encUser) ∧ Below w.heap.size w w' := by
  obtain ⟨i0, hi, hz0, hz1, hz2⟩ := info_parts Try.infoUser
  have hc := hr.2.1
  have hm := hr.2.2.1
  unfold maxLen at hm
  go_enter Try.func39, Try.ntmps39
  go_wp2_with fail
  go_loopw [4] (fun i wr => ∃ k : Nat, k ≤ n ∧ i = .int .i64 k ∧ Below w.heap.size w wr ∧ Bx wr w.heap.size 29 #[.slice A n c, .int .i64 fail, .int .i64 made] ∧ Bx wr (w.heap.size + 1) 29 #[.slice none 0 0, .int .i64 0, .int .i64 0] ∧ ∃ A1 c1, Bx wr (w.heap.size + 2) 29 #[.slice A1 k c1, .int .i64 fail, .int .i64 made] ∧ wr.ownsRow (w.heap.size + 3) 53 2 (.slice A1 k c1) k ((us.take k).flatMap encUser)) (fun i _ => n - (intOf i).toNat)
  case atStart => 
    refine ⟨0, Nat.zero_le _, rfl, by go_grown, ?_, ?_, none, 0, ?_, World.ownsRow_nil _ _ _ _⟩
    · exact ((Bx.new' _ _ _ rfl).alloc _).alloc _
    · exact (Bx.new' _ _ _ (by simp)).alloc _
    · exact Bx.new' _ _ _ (by simp)
  case round =>
    obtain ⟨k, hk, rfl, HB, bx0, bx1, A1, c1, bx2, own⟩ := hrel
    by_cases hlt : k < n
    · obtain ⟨b, off, rfl, hb, hcell⟩ := hr.elem encUser_len hn hlt
      have c0 := HB.cell (p := ⟨b, off + k * 2 + 0, none⟩) hb |>.trans (hcell 0 _ rfl)
      have c1 := HB.cell (p := ⟨b, off + k * 2 + 1, none⟩) hb |>.trans (hcell 1 _ rfl)
      simp only [Nat.add_zero] at c0
      have HT := Lib.hid (take_flat_snocU (enc := encUser) (show k < us.length by omega))
      have hz := bx2.lt
      have ce0 := bx0.cell 0
      have ce2 := bx2.cell 0
      have hk1 : (k : Int) < (n : Int) := by omega
      have hk0 : (0 : Int) ≤ (k : Int) := by omega
      clear hcell
      generalize us[k] = u at *
      have hlen : k + 1 ≤ maxLen := by unfold maxLen; omega
      go_wp2_with fail
      go_region_law (first | (refine step_append_lies _ (by rfl) _ _ 27 (by rfl) (w.heap.size + 3) 53 i0 _ 2 _ Try.underlying27 hi hz0 hz1 hz2 (by rfl) (by decide) _ k _ (by rfl) (own_alloc own) ⟨wr.heap.size, 0, none⟩ 1 1 (encUser u) (by rfl) (by rfl) (news_alloc _ rfl) (by intro u hu; simp [encUser] at hu; rcases hu with rfl | rfl <;> rfl) (by decide) hlen (by omega) (by simp; omega) _ rfl ?_; intro g cap w1 hown hgrow hat hlt1; have hb1 := below_app (w := wr.drew) own (by simp; omega) hgrow; replace bx0 := Bx.grow (w := wr.drew) bx0 hb1 (by omega); replace bx1 := Bx.grow (w := wr.drew) bx1 hb1 (by omega); replace bx2 := Bx.grow (w := wr.drew) bx2 hb1 (by omega); have cf2 := bx2.cell 0; have ff2 := bx2.frozen 0))
      all_goals
        go_wp2
        go_roundw
        case rel => exact ⟨k + 1, by omega, by go_num, (HB.drew.trans (hb1.mono (by omega))).setCell (by show w.heap.size ≤ w.heap.size + 2; omega) _, bx0.far (by omega) _, bx1.far (by omega) _, _, _, bx2.set _, by rw [← HT.out]; exact (Own.set_far (Own.of hown) (by left; omega) _).1⟩
        case measure => simp [intOf]; omega
    · obtain rfl : n = k := by omega
      have a0 : wr.cell? ⟨w.heap.size, 0, none⟩ = some (.slice A n c) := bx0.cell 0
      have b0 : wr.cell? ⟨w.heap.size + 1, 0, none⟩ = some (.slice none 0 0) := bx1.cell 0
      have b1 : wr.cell? ⟨w.heap.size + 1, 1, none⟩ = some (.int .i64 0) := bx1.cell 1
      have b2 : wr.cell? ⟨w.heap.size + 1, 2, none⟩ = some (.int .i64 0) := bx1.cell 2
      have d0 : wr.cell? ⟨w.heap.size + 2, 0, none⟩ = some (.slice A1 n c1) := bx2.cell 0
      have d1 : wr.cell? ⟨w.heap.size + 2, 1, none⟩ = some (.int .i64 fail) := bx2.cell 1
      have d2 : wr.cell? ⟨w.heap.size + 2, 2, none⟩ = some (.int .i64 made) := bx2.cell 2
      have cf2 := bx1.frozen 1
      have cf3 := bx1.frozen 2
      have cf1 := bx1.frozen 0
      have HO := Lib.hid own; clear own
      have HBH := Lib.hid HB
      have hz := bx2.lt
      have HF : Hid (us.take n = us) := by show _ = _; exact List.take_of_length_le (by omega)
      go_wp2_with fail
      refine bodyPost_ret (v := .agg #[.slice A1 n c1, .int .i64 fail, .int .i64 made]) (by simp [results, Try.results39, go_sem, b0, b1, b2]) rfl ⟨_, _, rfl, ?_, ?_⟩
      · have hO := HO.out
        rw [HF.out] at hO
        have HO' := Own.of hO
        refine Own.mono (lo := w.heap.size + 3) (hi := wr.heap.size) ?_ (by omega) (by simp [World.setCell]) (Nat.le_refl _)
        repeat (first | (with_reducible exact HO') | ((with_reducible refine Own.set_far ?_ ?_ _); rotate_left; (left; omega)))
      · have HB' := HBH.out
        repeat (first | (with_reducible exact HB') | ((with_reducible refine below_set ?_ ?_ _); rotate_left; omega))
end Go.Proofs.Ytnhdpcmnnjgdkaa

/- External systems: the reference's drop. No condition. -/
import Derived.Test.YtnhdpcmnnjgdkaaFarC
set_option linter.unusedVariables false
set_option linter.unusedSimpArgs false
namespace Go.Proofs.Ytnhdpcmnnjgdkaa
open Go.RowKit
set_option linter.unusedVariables false

theorem flatU_snoc (us : List User) (u : User) : us.flatMap encUser ++ encUser u = (us ++ [u]).flatMap encUser := by
  simp [List.flatMap_append]
def DropF (w : World) (rs : List User) (rf made rc : Int) (e : Ending) (w' : World) : Prop := ∃ A' c' lo hi, e = .returned (.tuple #[.agg #[.slice A' rs.length c', .int .i64 rf, .int .i64 made], .int .i64 rc]) ∧ Own w' lo hi 53 2 (.slice A' rs.length c') rs.length (rs.flatMap encUser) ∧ w.heap.size ≤ lo ∧ Below w.heap.size w w'
theorem keepU_skip {s : ByteArray} {us : List User} {k : Nat} (hk : k < us.length) (h : eqB us[k].name s = true) : keepU s (us.take (k + 1)) = keepU s (us.take k) := by
  rw [keepU, List.take_succ_eq_append_getElem hk, List.filter_append, List.filter_cons_of_neg (by rw [h]; simp)]
  simp [keepU]
theorem keepU_take {s : ByteArray} {us : List User} {k : Nat} (hk : k < us.length) (h : eqB us[k].name s = false) : keepU s (us.take (k + 1)) = keepU s (us.take k) ++ [us[k]] := by
  rw [keepU, List.take_succ_eq_append_getElem hk, List.filter_append, List.filter_cons_of_pos (by rw [h]; rfl)]
  simp [keepU]

set_option maxHeartbeats 4000000 in
set_option maxRecDepth 10000 in
theorem specDropUser_any (A : Option Addr) (n c : Nat) (us : List User) (fail made : Int) (s : ByteArray) (rs : List User) (rf rc : Int) (hd : dropU us fail made s = ⟨rs, rf, rc⟩) (w : World) (hr : Rd w w.heap.size 2 A n c (us.flatMap encUser)) (hn : us.length = n) (hf : ∀ u ∈ us, UserFits u) (hb20 : n ≤ 1048576) (hfail : -9223372036854775808 ≤ fail ∧ fail ≤ 9223372036854775807) :
    Calls Try.prog 41 #[.agg #[.slice A n c, .int .i64 fail, .int .i64 made], .string s] w fun e w' => DropF w rs rf made rc e w' := by
  obtain ⟨i0, hi, hz0, hz1, hz2⟩ := info_parts Try.infoUser
  have hc := hr.2.1
  have hm := hr.2.2.1
  unfold maxLen at hm
  have HD := Lib.hid hd; clear hd
  go_enter Try.func41, Try.ntmps41
  go_wp2_with fail
  refine (l11Copy_any A n c us fail made _ ((hr.alloc _).alloc _) hn hb20).mono ?_
  rintro e w1 ⟨A1, c1, rfl, own1, hb1'⟩
  obtain ⟨hbt, -, hx1⟩ := step_alloc hb1'
  obtain ⟨hb1, hz1', hx0⟩ := step_alloc hbt
  simp only [World.size_alloc] at hx1 own1
  have bx0 : Bx w1 w.heap.size 29 #[.slice A n c, .int .i64 fail, .int .i64 made] := hx0
  have bx1 : Bx w1 (w.heap.size + 1) 29 #[.slice none 0 0, .int .i64 0, .int .i64 0] := hx1
  have a0 : w1.cell? ⟨w.heap.size, 0, none⟩ = some (.slice A n c) := bx0.cell 0
  have a1 : w1.cell? ⟨w.heap.size, 1, none⟩ = some (.int .i64 fail) := bx0.cell 1
  have a2 : w1.cell? ⟨w.heap.size, 2, none⟩ = some (.int .i64 made) := bx0.cell 2
  have lt1 := bx1.lt
  clear hx0 hx1 hbt hb1'
  go_wp2_with fail
  clear a0 a1 a2
  refine (specFarOk_any A n c us fail made _ ((hr.grow hb1).alloc _) hn (fun u h => (hf u h).name)).mono ?_
  rintro e w2 ⟨rfl, hb2'⟩
  obtain ⟨hb2, hz2', hx2⟩ := step_alloc hb2'
  have bx2 : Bx w2 w1.heap.size 29 #[.slice A1 n c1, .int .i64 fail, .int .i64 made] := hx2
  clear hx2 hb2'
  replace bx0 := bx0.grow' hb2
  replace bx1 := bx1.grow' hb2
  replace own1 := own1.grow' hb2
  have HB := blift hb1 hb2 hb1.size
  clear hb2 hb1
  have a0 : w2.cell? ⟨w.heap.size, 0, none⟩ = some (.slice A n c) := bx0.cell 0
  have a1 : w2.cell? ⟨w.heap.size, 1, none⟩ = some (.int .i64 fail) := bx0.cell 1
  have b0 : w2.cell? ⟨w.heap.size + 1, 0, none⟩ = some (.slice none 0 0) := bx1.cell 0
  have b1 : w2.cell? ⟨w.heap.size + 1, 1, none⟩ = some (.int .i64 0) := bx1.cell 1
  have b2 : w2.cell? ⟨w.heap.size + 1, 2, none⟩ = some (.int .i64 0) := bx1.cell 2
  have d0 : w2.cell? ⟨w1.heap.size, 0, none⟩ = some (.slice A1 n c1) := bx2.cell 0
  have d1 : w2.cell? ⟨w1.heap.size, 1, none⟩ = some (.int .i64 fail) := bx2.cell 1
  have d2 : w2.cell? ⟨w1.heap.size, 2, none⟩ = some (.int .i64 made) := bx2.cell 2
  have f0 := bx1.frozen 0
  have f1 := bx1.frozen 1
  have f2 := bx1.frozen 2
  have f3 := bx2.frozen 0
  have f4 := bx2.frozen 1
  cases hq : farOk us fail made with
  | false =>
    have HD2 : Hid ((⟨us, fail, 1⟩ : DropR) = ⟨rs, rf, rc⟩) := by have := HD.out; rwa [dropU, hq, if_neg (by decide)] at this
    have HO := Lib.hid own1; clear own1
    have HBH := Lib.hid HB; clear HB
    go_wp2_with fail
    obtain ⟨rfl, rfl, rfl⟩ := DropR.mk.inj HD2.out
    subst hn
    refine bodyPost_ret (v := .tuple #[.agg #[.slice A1 us.length c1, .int .i64 fail, .int .i64 made], .int .i64 1]) (by simp [results, Try.results41, go_sem, b0, b1, b2]) rfl ⟨A1, c1, w.heap.size + 1 + 1, w1.heap.size, rfl, ?_, by omega, ?_⟩
    · have HO' := HO.out
      repeat (first | (with_reducible exact HO') | ((with_reducible refine Own.set_far ?_ ?_ _); rotate_left; omega))
    · have HB' := HBH.out
      repeat (first | (with_reducible exact HB') | ((with_reducible refine below_set ?_ ?_ _); rotate_left; omega))
  | true =>
    by_cases hfl : 0 < fail
    · have HD2 : Hid ((⟨us, fail - 1, 2⟩ : DropR) = ⟨rs, rf, rc⟩) := by have := HD.out; rwa [dropU, hq, if_pos rfl, if_pos hfl] at this
      have HO := Lib.hid own1; clear own1
      have HBH := Lib.hid HB; clear HB
      go_wp2_with fail
      obtain ⟨rfl, rfl, rfl⟩ := DropR.mk.inj HD2.out
      subst hn
      refine bodyPost_ret (v := .tuple #[.agg #[.slice A1 us.length c1, .int .i64 (fail - 1), .int .i64 made], .int .i64 2]) (by simp [results, Try.results41, go_sem, b0, b1, b2]) rfl ⟨A1, c1, w.heap.size + 1 + 1, w1.heap.size, rfl, ?_, by omega, ?_⟩
      · have HO' := HO.out
        repeat (first | (with_reducible exact HO') | ((with_reducible refine Own.set_far ?_ ?_ _); rotate_left; omega))
      · have HB' := HBH.out
        repeat (first | (with_reducible exact HB') | ((with_reducible refine below_set ?_ ?_ _); rotate_left; omega))
    · have HD2 : Hid ((⟨keepU s us, fail, 0⟩ : DropR) = ⟨rs, rf, rc⟩) := by have := HD.out; rwa [dropU, hq, if_pos rfl, if_neg hfl] at this
      clear own1
      go_wp2_with fail
      go_loopw [7] (fun i wr => ∃ k : Nat, k ≤ n ∧ i = .int .i64 k ∧ Below w.heap.size w wr ∧ Bx wr w.heap.size 29 #[.slice A n c, .int .i64 fail, .int .i64 made] ∧ Bx wr (w.heap.size + 1) 29 #[.slice none 0 0, .int .i64 0, .int .i64 0] ∧ ∃ A2 c2, Bx wr w1.heap.size 29 #[.slice A2 (keepU s (us.take k)).length c2, .int .i64 fail, .int .i64 made] ∧ wr.ownsRow (w1.heap.size + 1) 53 2 (.slice A2 (keepU s (us.take k)).length c2) (keepU s (us.take k)).length ((keepU s (us.take k)).flatMap encUser)) (fun i _ => n - (intOf i).toNat)
      case atStart => exact ⟨0, Nat.zero_le _, rfl, HB.setCell (by show w.heap.size ≤ w1.heap.size; omega) _, bx0.far (by omega) _, bx1.far (by omega) _, none, 0, bx2.set _, World.ownsRow_nil _ _ _ _⟩
      case round =>
        clear bx0 bx1 bx2 HB a0 a1 b0 b1 b2 d0 d1 d2 f0 f1 f2 f3 f4
        obtain ⟨k, hk, rfl, HB, bx0, bx1, A2, c2, bx2, own⟩ := hrel
        by_cases hlt : k < n
        · obtain ⟨b, off, rfl, hb, hcell⟩ := hr.elem encUser_len hn hlt
          have c0 := HB.cell (p := ⟨b, off + k * 2 + 0, none⟩) hb |>.trans (hcell 0 _ rfl)
          have c1' := HB.cell (p := ⟨b, off + k * 2 + 1, none⟩) hb |>.trans (hcell 1 _ rfl)
          simp only [Nat.add_zero] at c0
          have hz := bx2.lt
          have ce0 : wr.cell? ⟨w.heap.size, 0, none⟩ = some (.slice (some ⟨b, off, none⟩) n c) := bx0.cell 0
          have ce2 : wr.cell? ⟨w1.heap.size, 0, none⟩ = some (.slice A2 (keepU s (us.take k)).length c2) := bx2.cell 0
          have hk1 : (k : Int) < (n : Int) := by omega
          have hk0 : (0 : Int) ≤ (k : Int) := by omega
          have hle : (keepU s (us.take k)).length ≤ k := Nat.le_trans (keepU_len _ _) (by rw [List.length_take]; omega)
          clear hcell
          cases he : eqB (us[k]'(by omega)).name s with
          | true =>
            have HK : Hid (keepU s (us.take (k + 1)) = keepU s (us.take k)) := keepU_skip (by omega) he
            unfold eqB at he
            generalize us[k]'(by omega) = u at *
            go_wp2_with fail
            go_roundw
            case rel => exact ⟨k + 1, by omega, by go_num, HB, bx0, bx1, A2, c2, by rw [HK.out]; exact bx2, by rw [HK.out]; exact own⟩
            case measure => simp [intOf]; omega
          | false =>
            have HK : Hid (keepU s (us.take (k + 1)) = keepU s (us.take k) ++ [us[k]'(by omega)]) := keepU_take (by omega) he
            unfold eqB at he
            generalize us[k]'(by omega) = u at *
            generalize keepU s (us.take k) = ks at *
            have hlen : ks.length + 1 ≤ maxLen := by unfold maxLen; omega
            go_wp2_with fail
            go_region_law (first | (refine step_append_lies _ (by rfl) _ _ 27 (by rfl) (w1.heap.size + 1) 53 i0 _ 2 _ Try.underlying27 hi hz0 hz1 hz2 (by rfl) (by decide) _ ks.length _ (by rfl) (own_alloc own) ⟨wr.heap.size, 0, none⟩ 1 1 (encUser u) (by rfl) (by rfl) (news_alloc _ rfl) (by intro u hu; simp [encUser] at hu; rcases hu with rfl | rfl <;> rfl) (by decide) hlen (by omega) (by simp; omega) _ rfl ?_; intro g cap w3 hown hgrow hat hlt1; have hb1 := below_app (w := wr.drew) own (by simp; omega) hgrow; replace bx0 := Bx.grow (w := wr.drew) bx0 hb1 (by omega); replace bx1 := Bx.grow (w := wr.drew) bx1 hb1 (by omega); replace bx2 := Bx.grow (w := wr.drew) bx2 hb1 (by omega); have cf2 := bx2.cell 0; have ff2 := bx2.frozen 0))
            all_goals
              go_wp2
              go_roundw
              case rel =>
                refine ⟨k + 1, by omega, by go_num, (HB.drew.trans (hb1.mono (by omega))).setCell (by show w.heap.size ≤ w1.heap.size; omega) _, bx0.far (by omega) _, bx1.far (by omega) _, some ⟨g, 0, none⟩, cap, ?_, ?_⟩
                · rw [HK.out, List.length_append]; exact bx2.set _
                · rw [HK.out, List.length_append, ← flatU_snoc]; exact (Own.set_far (Own.of hown) (by left; omega) _).1
              case measure => simp [intOf]; omega
        · obtain rfl : n = k := by omega
          have HK : Hid (us.take n = us) := by show _ = _; exact List.take_of_length_le (by omega)
          rw [HK.out] at bx2 own
          have b0 : wr.cell? ⟨w.heap.size + 1, 0, none⟩ = some (.slice none 0 0) := bx1.cell 0
          have b1 : wr.cell? ⟨w.heap.size + 1, 1, none⟩ = some (.int .i64 0) := bx1.cell 1
          have b2 : wr.cell? ⟨w.heap.size + 1, 2, none⟩ = some (.int .i64 0) := bx1.cell 2
          have d0 : wr.cell? ⟨w1.heap.size, 0, none⟩ = some (.slice A2 (keepU s us).length c2) := bx2.cell 0
          have d1 : wr.cell? ⟨w1.heap.size, 1, none⟩ = some (.int .i64 fail) := bx2.cell 1
          have d2 : wr.cell? ⟨w1.heap.size, 2, none⟩ = some (.int .i64 made) := bx2.cell 2
          have a0 : wr.cell? ⟨w.heap.size, 0, none⟩ = some (.slice A n c) := bx0.cell 0
          have f0 := bx1.frozen 0
          have f1 := bx1.frozen 1
          have f2 := bx1.frozen 2
          have hz := bx2.lt
          have HO := Lib.hid own; clear own
          have HBH := Lib.hid HB; clear HB
          generalize keepU s us = ks at *
          go_wp2_with fail
          obtain ⟨rfl, rfl, rfl⟩ := DropR.mk.inj HD2.out
          refine bodyPost_ret (v := .tuple #[.agg #[.slice A2 ks.length c2, .int .i64 fail, .int .i64 made], .int .i64 0]) (by simp [results, Try.results41, go_sem, b0, b1, b2]) rfl ⟨A2, c2, w1.heap.size + 1, wr.heap.size, rfl, ?_, by omega, ?_⟩
          · have HO' := Own.of HO.out
            repeat (first | (with_reducible exact HO') | ((with_reducible refine Own.set_far ?_ ?_ _); rotate_left; omega))
          · have HB' := HBH.out
            repeat (first | (with_reducible exact HB') | ((with_reducible refine below_set ?_ ?_ _); rotate_left; omega))
end Go.Proofs.Ytnhdpcmnnjgdkaa

/- Eight bytes of a number. No condition. -/
import Derived.Test.YtnhdpcmnnjgdkaaM2
import Derived.Test.YtnhdpcmnnjgdkaaNum
set_option linter.unusedVariables false
set_option linter.unusedSimpArgs false
namespace Go.Proofs.Ytnhdpcmnnjgdkaa
open Go.RowKit
set_option linter.unusedVariables false
set_option linter.unusedSimpArgs false
theorem wideB_nat (x k : Nat) : (wideB x k).toNat = x / 256 ^ k % 256 := by
  unfold wideB
  rw [UInt8.toNat_ofNat']
  exact Nat.mod_mod _ _
theorem wide_int (x k : Nat) : (x : Int) / 2 ^ (8 * k) % 256 = ((wideB x k).toNat : Int) := by
  rw [wideB_nat]
  have e : (2 : Int) ^ (8 * k) = ((256 ^ k : Nat) : Int) := by
    have e8 : (2 : Int) ^ 8 = 256 := by decide
    rw [Int.pow_mul, e8, Int.natCast_pow]
    rfl
  rw [e]
  generalize 256 ^ k = p
  rw [Int.natCast_emod, Int.natCast_ediv]
  rfl
theorem wide_bits (x k : Nat) (hx : x ≤ 1099511627776) : bits .and .i64 ((x : Int) / 2 ^ (8 * k)) 255 % 256 = ((wideB x k).toNat : Int) := by
  have h0 : 0 ≤ (x : Int) / 2 ^ (8 * k) := Int.ediv_nonneg (by omega) (Int.pow_nonneg (by decide))
  have h1 : (x : Int) / 2 ^ (8 * k) ≤ x := Int.ediv_le_self _ (by omega)
  have h := bits_mask .i64 62 (by decide) (fun n h0 h1 => by rw [IntKind.wrap_i64]; omega) 8 (by decide) ((x : Int) / 2 ^ (8 * k)) h0 (by omega)
  have e : ((2 : Int) ^ 8 - 1) = 255 := by decide
  have e2 : ((2 : Int) ^ 8) = 256 := by decide
  rw [e, e2] at h
  rw [h, Int.emod_emod_of_dvd _ (Int.dvd_refl 256), wide_int]
/-- The cells of the row when k bytes are laid. -/
def wideC (x k : Nat) : List Value := (List.range 8).map fun i => if i < k then .int .u8 (wideB x i).toNat else .int .u8 0
theorem wideC_len (x k : Nat) : (wideC x k).length = 8 := by simp [wideC]
theorem wideC_set {x k : Nat} (h : k < 8) : (wideC x k).set k (.int .u8 (wideB x k).toNat) = wideC x (k + 1) := by
  apply List.ext_getElem
  · simp [wideC]
  · intro i h1 h2
    rw [List.getElem_set]
    simp only [wideC, List.getElem_map, List.getElem_range]
    by_cases e : k = i
    · subst e; rw [if_pos rfl, if_pos (by omega)]
    · rw [if_neg e]
      by_cases e2 : i < k
      · rw [if_pos e2, if_pos (by omega)]
      · rw [if_neg e2, if_neg (by omega)]
theorem wideC_end (x : Nat) : wideC x 8 = (wideL x).flatMap encByte := by
  simp [wideC, wideL, encByte, List.range_succ]
set_option maxHeartbeats 2000000 in
set_option maxRecDepth 10000 in
theorem specPutWide_hp (x : Nat) (w : World) (hx : x ≤ 1099511627776) :
    Calls Try.prog 30 #[.int .i64 x] w fun e w' => ∃ A c, e = .returned (.slice A (wideL x).length c) ∧ Hp w w' [rByte A c (wideL x)] := by
  obtain ⟨i0, hi0, hz0, hz1, hz2⟩ := info_parts Try.infoByte
  have hk : inR (x : Int) 0 1099511627776 = true := by simp [inR]; omega
  have H := Hp.nil w
  go_enter Try.func30, Try.ntmps30
  go_wp2_with (go_at_call 25; refine (l04Key_any _ _).mono ?_; rintro e w' ⟨rfl, rfl⟩)
  clear hk
  go_loopw [3, 4] (fun v i wr => ∃ k : Nat, k ≤ 8 ∧ i = .int .i64 k ∧ ∃ A' c', v = .slice A' ((wideL x).take k).length c' ∧ Hid (Hp w wr [rByte A' c' ((wideL x).take k)])) (fun _ i _ => 8 - (intOf i).toNat)
  case atStart => exact ⟨0, Nat.zero_le _, rfl, some ⟨w.heap.size, 0, none⟩, 0, rfl, Lib.hid (Hp.give (Hp.boxRow (by repeat (first | (with_reducible exact H) | (with_reducible apply Hp.alloc) | (with_reducible apply Hp.set) | (with_reducible apply Hp.drew) | (with_reducible apply Hp.drewN) | (with_reducible apply Hp.bytesW) | (with_reducible exact Upd.here) | (with_reducible exact Upd.hereR) | (with_reducible apply Upd.there) | (with_reducible apply Sz.alloc) | (with_reducible apply Sz.set) | (with_reducible apply Sz.drew) | (with_reducible apply Sz.drewN) | (with_reducible apply Sz.bytesW) | (with_reducible assumption) | (with_reducible exact Sz.base _))) 0 1 0 0 (by rfl) (by rfl) (Nat.le_refl _) (Nat.zero_le _)) [0] (by decide) (by rfl))⟩
  case round =>
    clear H
    obtain ⟨k, hk, rfl, A', c', rfl, HP⟩ := hrel
    have H := HP.out
    have F := H.facts; simp only [Facts, NeF, box, row, reg, cellsF, rByte, ne_eq, true_and, and_true, Nat.reduceAdd, Nat.zero_add] at F
    by_cases hlt : k < 8
    · have HT : Hid ((wideL x).take (k + 1) = (wideL x).take k ++ [wideB x k]) := wideL_take hlt
      have hlen : ((wideL x).take k).length = k := by rw [List.length_take, wideL_len]; omega
      have hl : ((wideL x).take k).length + 1 ≤ maxLen := by unfold maxLen; omega
      have hl2 : (((wideL x).take k).length + 1) * 1 ≤ 140737488355328 := by omega
      clear hlen HP
      generalize (wideL x).take k = ts at *
      have hbit := wide_bits x k hx
      go_wp2_with (at_builtin; refine wpList_append_lies _ (by rfl) _ _ 22 (by rfl) w.heap.size 5 i0 _ 1 _ Try.underlying22 hi0 hz0 hz1 hz2 (by rfl) (by decide) (.slice A' (ts.length) c') (ts.length) _ (by rfl) (Hp.rowM (by repeat (first | (with_reducible exact H) | (with_reducible apply Hp.alloc) | (with_reducible apply Hp.set) | (with_reducible apply Hp.drew) | (with_reducible apply Hp.drewN) | (with_reducible apply Hp.bytesW) | (with_reducible exact Upd.here) | (with_reducible exact Upd.hereR) | (with_reducible apply Upd.there) | (with_reducible apply Sz.alloc) | (with_reducible apply Sz.set) | (with_reducible apply Sz.drew) | (with_reducible apply Sz.drewN) | (with_reducible apply Sz.bytesW) | (with_reducible assumption) | (with_reducible exact Sz.base _))) (by repeat (first | (with_reducible exact List.mem_cons_self) | (with_reducible apply List.mem_cons_of_mem)))) ⟨wr.heap.size, 0, none⟩ 1 1 (encByte (wideB x k)) (by rfl) (by rfl) (Hp.news (by repeat (first | (with_reducible exact H) | (with_reducible apply Hp.alloc) | (with_reducible apply Hp.set) | (with_reducible apply Hp.drew) | (with_reducible apply Hp.drewN) | (with_reducible apply Hp.bytesW) | (with_reducible exact Upd.here) | (with_reducible exact Upd.hereR) | (with_reducible apply Upd.there) | (with_reducible apply Sz.alloc) | (with_reducible apply Sz.set) | (with_reducible apply Sz.drew) | (with_reducible apply Sz.drewN) | (with_reducible apply Sz.bytesW) | (with_reducible assumption) | (with_reducible exact Sz.base _))) 0 (by rfl)) (oneByte (wideB x k)) (by decide) hl (by omega) (Hp.b (by repeat (first | (with_reducible exact H) | (with_reducible apply Hp.alloc) | (with_reducible apply Hp.set) | (with_reducible apply Hp.drew) | (with_reducible apply Hp.drewN) | (with_reducible apply Hp.bytesW) | (with_reducible exact Upd.here) | (with_reducible exact Upd.hereR) | (with_reducible apply Upd.there) | (with_reducible apply Sz.alloc) | (with_reducible apply Sz.set) | (with_reducible apply Sz.drew) | (with_reducible apply Sz.drewN) | (with_reducible apply Sz.bytesW) | (with_reducible assumption) | (with_reducible exact Sz.base _)))).size _ rfl ?_; intro g cap wa hown hgrow hat hlt1; have H5 := Hp.appM (by repeat (first | (with_reducible exact H) | (with_reducible apply Hp.alloc) | (with_reducible apply Hp.set) | (with_reducible apply Hp.drew) | (with_reducible apply Hp.drewN) | (with_reducible apply Hp.bytesW) | (with_reducible exact Upd.here) | (with_reducible exact Upd.hereR) | (with_reducible apply Upd.there) | (with_reducible apply Sz.alloc) | (with_reducible apply Sz.set) | (with_reducible apply Sz.drew) | (with_reducible apply Sz.drewN) | (with_reducible apply Sz.bytesW) | (with_reducible assumption) | (with_reducible exact Sz.base _))) (by repeat (first | (with_reducible exact Rep.here) | (with_reducible apply Rep.there))) hown hgrow hat rfl hlt1; (try simp only [List.set_cons_zero, List.set_cons_succ, List.cons_append, List.nil_append] at H5); have FA := H5.facts; simp only [Facts, NeF, box, row, reg, cellsF, rByte, ne_eq, true_and, and_true, Nat.reduceAdd, Nat.zero_add] at FA)
      rw [rByte_snoc] at H5
      refine ⟨⟨k + 1, by omega, by go_num, some ⟨g, 0, none⟩, cap, ?_, ?_⟩, by simp [intOf]; omega⟩
      · rw [HT.out]; simp
      · rw [HT.out]; exact Lib.hid (by refine Hp.sel (by repeat (first | (with_reducible exact H5) | (with_reducible apply Hp.alloc) | (with_reducible apply Hp.set) | (with_reducible apply Hp.drew) | (with_reducible apply Hp.drewN) | (with_reducible apply Hp.bytesW) | (with_reducible exact Upd.here) | (with_reducible exact Upd.hereR) | (with_reducible apply Upd.there) | (with_reducible apply Sz.alloc) | (with_reducible apply Sz.set) | (with_reducible apply Sz.drew) | (with_reducible apply Sz.drewN) | (with_reducible apply Sz.bytesW) | (with_reducible assumption) | (with_reducible exact Sz.base _))) ?_; (try simp only [List.set_cons_zero, List.set_cons_succ]); exact (by repeat (first | (with_reducible exact Sel.nil) | (with_reducible apply Sel.cons) | (with_reducible exact Del.here) | (with_reducible apply Del.there))))
    · have HT : Hid ((wideL x).take k = wideL x) := List.take_of_length_le (by rw [wideL_len]; omega)
      rw [HT.out] at HP ⊢
      have H2 := HP.out
      go_wp2_with fail
      go_ret
      exact ⟨A', c', rfl, H2⟩
end Go.Proofs.Ytnhdpcmnnjgdkaa

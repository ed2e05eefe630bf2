/- A check of a code in the reference: the walk. No condition. -/
import Derived.Test.YtonbebacioocnaaDoorChk
import Derived.Deep.RegionWith
import Derived.Deep.DrawnRows
namespace Go.Proofs.YtonbebacioocnaaDoor
open Go.RowKit
set_option linter.unusedVariables false
set_option linter.unusedSimpArgs false
attribute [local go_sem ↓] Go.wp_at_zero Go.wp_at_succ
set_option maxHeartbeats 8000000 in
set_option maxRecDepth 100000 in
theorem specCheckCode_any (k c f u now : Int) (win : Int) (code : ByteArray) (w : World) :
    Calls Tryd.prog 27 #[.agg #[.int .i64 k, .int .i64 c, .int .i64 f, .int .i64 u], .string code, .int .i64 win, .int .i64 now] w fun e w' => e = .returned (checkV k c f u code win now).val ∧ Below w.heap.size w w' := by
  have H := Hp.nil w
  cases hd : devOk k c f u with
  | false =>
    have HR : Hid (checkV k c f u code win now = ⟨k, c, f, u, 1⟩) := by show _ = _; rw [checkV, if_neg (by rw [hd]; simp)]
    go_enter Tryd.func27, Tryd.ntmps27
    go_wp2_with (first | (go_at_call 31; refine (specDeviceOk_any _ _ _ _ _).mono ?_; rintro e w1 ⟨rfl, hb1⟩; replace H := Hp.step (by repeat (first | (with_reducible exact H) | (with_reducible apply Hp.alloc) | (with_reducible apply Hp.set) | (with_reducible apply Hp.drew) | (with_reducible apply Hp.drewN) | (with_reducible apply Hp.bytesW) | (with_reducible exact Upd.here) | (with_reducible exact Upd.hereR) | (with_reducible apply Upd.there) | (with_reducible apply Sz.alloc) | (with_reducible apply Sz.set) | (with_reducible apply Sz.drew) | (with_reducible apply Sz.drewN) | (with_reducible apply Sz.bytesW) | (with_reducible assumption) | (with_reducible exact Sz.base _))) hb1; (try simp only [List.set_cons_zero, List.set_cons_succ, List.cons_append, List.nil_append] at H); have F := H.facts; simp only [Facts, NeF, box, row, reg, cellsF, ne_eq, true_and, and_true, Nat.reduceAdd, Nat.zero_add] at F) | (go_at_call 64; refine (l01In_any _ _ _ _).mono ?_; rintro e w' ⟨rfl, rfl⟩))
    refine bodyPost_ret (v := .tuple #[.agg #[.int .i64 k, .int .i64 c, .int .i64 f, .int .i64 u], .int .i64 1]) (by simp [results, Tryd.results27, go_sem, F]) rfl ⟨by rw [HR.out]; rfl, Hp.b (by repeat (first | (with_reducible exact H) | (with_reducible apply Hp.alloc) | (with_reducible apply Hp.set) | (with_reducible apply Hp.drew) | (with_reducible apply Hp.drewN) | (with_reducible apply Hp.bytesW) | (with_reducible exact Upd.here) | (with_reducible exact Upd.hereR) | (with_reducible apply Upd.there) | (with_reducible apply Sz.alloc) | (with_reducible apply Sz.set) | (with_reducible apply Sz.drew) | (with_reducible apply Sz.drewN) | (with_reducible apply Sz.bytesW) | (with_reducible assumption) | (with_reducible exact Sz.base _)))⟩
  | true =>
  cases hw : inR win 0 20 with
  | false =>
    have HR : Hid (checkV k c f u code win now = ⟨k, c, f, u, 1⟩) := by show _ = _; rw [checkV, if_neg (by rw [hw]; simp)]
    go_enter Tryd.func27, Tryd.ntmps27
    go_wp2_with (first | (go_at_call 31; refine (specDeviceOk_any _ _ _ _ _).mono ?_; rintro e w1 ⟨rfl, hb1⟩; replace H := Hp.step (by repeat (first | (with_reducible exact H) | (with_reducible apply Hp.alloc) | (with_reducible apply Hp.set) | (with_reducible apply Hp.drew) | (with_reducible apply Hp.drewN) | (with_reducible apply Hp.bytesW) | (with_reducible exact Upd.here) | (with_reducible exact Upd.hereR) | (with_reducible apply Upd.there) | (with_reducible apply Sz.alloc) | (with_reducible apply Sz.set) | (with_reducible apply Sz.drew) | (with_reducible apply Sz.drewN) | (with_reducible apply Sz.bytesW) | (with_reducible assumption) | (with_reducible exact Sz.base _))) hb1; (try simp only [List.set_cons_zero, List.set_cons_succ, List.cons_append, List.nil_append] at H); have F := H.facts; simp only [Facts, NeF, box, row, reg, cellsF, ne_eq, true_and, and_true, Nat.reduceAdd, Nat.zero_add] at F) | (go_at_call 64; refine (l01In_any _ _ _ _).mono ?_; rintro e w' ⟨rfl, rfl⟩))
    refine bodyPost_ret (v := .tuple #[.agg #[.int .i64 k, .int .i64 c, .int .i64 f, .int .i64 u], .int .i64 1]) (by simp [results, Tryd.results27, go_sem, F]) rfl ⟨by rw [HR.out]; rfl, Hp.b (by repeat (first | (with_reducible exact H) | (with_reducible apply Hp.alloc) | (with_reducible apply Hp.set) | (with_reducible apply Hp.drew) | (with_reducible apply Hp.drewN) | (with_reducible apply Hp.bytesW) | (with_reducible exact Upd.here) | (with_reducible exact Upd.hereR) | (with_reducible apply Upd.there) | (with_reducible apply Sz.alloc) | (with_reducible apply Sz.set) | (with_reducible apply Sz.drew) | (with_reducible apply Sz.drewN) | (with_reducible apply Sz.bytesW) | (with_reducible assumption) | (with_reducible exact Sz.base _)))⟩
  | true =>
  cases hn : inR now 0 1000000000 with
  | false =>
    have HR : Hid (checkV k c f u code win now = ⟨k, c, f, u, 1⟩) := by show _ = _; rw [checkV, if_neg (by rw [hn]; simp)]
    go_enter Tryd.func27, Tryd.ntmps27
    go_wp2_with (first | (go_at_call 31; refine (specDeviceOk_any _ _ _ _ _).mono ?_; rintro e w1 ⟨rfl, hb1⟩; replace H := Hp.step (by repeat (first | (with_reducible exact H) | (with_reducible apply Hp.alloc) | (with_reducible apply Hp.set) | (with_reducible apply Hp.drew) | (with_reducible apply Hp.drewN) | (with_reducible apply Hp.bytesW) | (with_reducible exact Upd.here) | (with_reducible exact Upd.hereR) | (with_reducible apply Upd.there) | (with_reducible apply Sz.alloc) | (with_reducible apply Sz.set) | (with_reducible apply Sz.drew) | (with_reducible apply Sz.drewN) | (with_reducible apply Sz.bytesW) | (with_reducible assumption) | (with_reducible exact Sz.base _))) hb1; (try simp only [List.set_cons_zero, List.set_cons_succ, List.cons_append, List.nil_append] at H); have F := H.facts; simp only [Facts, NeF, box, row, reg, cellsF, ne_eq, true_and, and_true, Nat.reduceAdd, Nat.zero_add] at F) | (go_at_call 64; refine (l01In_any _ _ _ _).mono ?_; rintro e w' ⟨rfl, rfl⟩))
    refine bodyPost_ret (v := .tuple #[.agg #[.int .i64 k, .int .i64 c, .int .i64 f, .int .i64 u], .int .i64 1]) (by simp [results, Tryd.results27, go_sem, F]) rfl ⟨by rw [HR.out]; rfl, Hp.b (by repeat (first | (with_reducible exact H) | (with_reducible apply Hp.alloc) | (with_reducible apply Hp.set) | (with_reducible apply Hp.drew) | (with_reducible apply Hp.drewN) | (with_reducible apply Hp.bytesW) | (with_reducible exact Upd.here) | (with_reducible exact Upd.hereR) | (with_reducible apply Upd.there) | (with_reducible apply Sz.alloc) | (with_reducible apply Sz.set) | (with_reducible apply Sz.drew) | (with_reducible apply Sz.drewN) | (with_reducible apply Sz.bytesW) | (with_reducible assumption) | (with_reducible exact Sz.base _)))⟩
  | true =>
  obtain ⟨⟨hk0, hk1⟩, ⟨hc0, hc1⟩, hf, hu⟩ := devOk_iff.1 hd
  obtain ⟨kn, rfl⟩ := Int.eq_ofNat_of_zero_le hk0
  obtain ⟨cn, rfl⟩ := Int.eq_ofNat_of_zero_le hc0
  have hw2 := inR_true.1 hw
  have hn2 := inR_true.1 hn
  obtain ⟨P, hP⟩ : ∃ P : Nat → Bool, P = fun x => eqB (codeT kn x) code := ⟨_, rfl⟩
  have HP := Lib.hid hP
  obtain ⟨lim, hlim⟩ : ∃ n : Nat, min ((cn : Int) + win) 1000000000 = n := ⟨(min ((cn : Int) + win) 1000000000).toNat, by omega⟩
  obtain ⟨o, ho⟩ : ∃ o, findC P (lim + 1 - cn) cn = o := ⟨_, rfl⟩
  have HV : Hid (checkV kn cn f u code win now = chkIn P kn cn f u now 1 lim) := by show _ = _; rw [checkV, if_pos ⟨hd, hw, hn⟩, hlim, hP]; rfl
  clear hP
  have HO := Lib.hid ho
  by_cases hb : now < u
  · have HR : Hid (checkV kn cn f u code win now = ⟨kn, cn, f, u, 2⟩) := by show _ = _; rw [HV.out, chkIn, if_pos hb]
    clear ho
    go_enter Tryd.func27, Tryd.ntmps27
    go_wp2_with (first | (go_at_call 31; refine (specDeviceOk_any _ _ _ _ _).mono ?_; rintro e w1 ⟨rfl, hb1⟩; replace H := Hp.step (by repeat (first | (with_reducible exact H) | (with_reducible apply Hp.alloc) | (with_reducible apply Hp.set) | (with_reducible apply Hp.drew) | (with_reducible apply Hp.drewN) | (with_reducible apply Hp.bytesW) | (with_reducible exact Upd.here) | (with_reducible exact Upd.hereR) | (with_reducible apply Upd.there) | (with_reducible apply Sz.alloc) | (with_reducible apply Sz.set) | (with_reducible apply Sz.drew) | (with_reducible apply Sz.drewN) | (with_reducible apply Sz.bytesW) | (with_reducible assumption) | (with_reducible exact Sz.base _))) hb1; (try simp only [List.set_cons_zero, List.set_cons_succ, List.cons_append, List.nil_append] at H); have F := H.facts; simp only [Facts, NeF, box, row, reg, cellsF, ne_eq, true_and, and_true, Nat.reduceAdd, Nat.zero_add] at F) | (go_at_call 64; refine (l01In_any _ _ _ _).mono ?_; rintro e w' ⟨rfl, rfl⟩))
    refine bodyPost_ret (v := .tuple #[.agg #[.int .i64 kn, .int .i64 cn, .int .i64 f, .int .i64 u], .int .i64 2]) (by simp [results, Tryd.results27, go_sem, F]) rfl ⟨by rw [HR.out]; rfl, Hp.b (by repeat (first | (with_reducible exact H) | (with_reducible apply Hp.alloc) | (with_reducible apply Hp.set) | (with_reducible apply Hp.drew) | (with_reducible apply Hp.drewN) | (with_reducible apply Hp.bytesW) | (with_reducible exact Upd.here) | (with_reducible exact Upd.hereR) | (with_reducible apply Upd.there) | (with_reducible apply Sz.alloc) | (with_reducible apply Sz.set) | (with_reducible apply Sz.drew) | (with_reducible apply Sz.drewN) | (with_reducible apply Sz.bytesW) | (with_reducible assumption) | (with_reducible exact Sz.base _)))⟩
  have HR : Hid (checkV kn cn f u code win now = chkEnd kn cn f u now 1 o) := by show _ = _; rw [HV.out, chkIn, if_neg hb, Int.toNat_natCast, ho]
  clear ho
  have hl1 : lim ≤ 1000000000 := by omega
  have hl2 : cn ≤ lim + 1 := by omega
  go_enter Tryd.func27, Tryd.ntmps27
  go_wp2_with (first | (go_at_call 31; refine (specDeviceOk_any _ _ _ _ _).mono ?_; rintro e w1 ⟨rfl, hb1⟩; replace H := Hp.step (by repeat (first | (with_reducible exact H) | (with_reducible apply Hp.alloc) | (with_reducible apply Hp.set) | (with_reducible apply Hp.drew) | (with_reducible apply Hp.drewN) | (with_reducible apply Hp.bytesW) | (with_reducible exact Upd.here) | (with_reducible exact Upd.hereR) | (with_reducible apply Upd.there) | (with_reducible apply Sz.alloc) | (with_reducible apply Sz.set) | (with_reducible apply Sz.drew) | (with_reducible apply Sz.drewN) | (with_reducible apply Sz.bytesW) | (with_reducible assumption) | (with_reducible exact Sz.base _))) hb1; (try simp only [List.set_cons_zero, List.set_cons_succ, List.cons_append, List.nil_append] at H); have F := H.facts; simp only [Facts, NeF, box, row, reg, cellsF, ne_eq, true_and, and_true, Nat.reduceAdd, Nat.zero_add] at F) | (go_at_call 64; refine (l01In_any _ _ _ _).mono ?_; rintro e w' ⟨rfl, rfl⟩))
  clear F
  go_loopw [10] (fun i wr => ∃ x m : Nat, i = .int .i64 x ∧ cn ≤ x ∧ x + m = lim + 1 ∧ Hid (findC P m x = o) ∧ Hid (Hp w wr [box (w.heap.size + 1) 36 [.int .i64 0, .int .i64 0, .int .i64 0, .int .i64 0], box w.heap.size 36 [.int .i64 kn, .int .i64 cn, .int .i64 f, .int .i64 u]])) (fun i _ => lim + 1 - (intOf i).toNat)
  case atStart => exact ⟨cn, lim + 1 - cn, rfl, Nat.le_refl _, by omega, HO, Lib.hid (by repeat (first | (with_reducible exact H) | (with_reducible apply Hp.alloc) | (with_reducible apply Hp.set) | (with_reducible apply Hp.drew) | (with_reducible apply Hp.drewN) | (with_reducible apply Hp.bytesW) | (with_reducible exact Upd.here) | (with_reducible exact Upd.hereR) | (with_reducible apply Upd.there) | (with_reducible apply Sz.alloc) | (with_reducible apply Sz.set) | (with_reducible apply Sz.drew) | (with_reducible apply Sz.drewN) | (with_reducible apply Sz.bytesW) | (with_reducible assumption) | (with_reducible exact Sz.base _)))⟩
  case round =>
    clear H
    obtain ⟨x, m, rfl, hx1, hx2, HX, HH⟩ := hrel
    have H := HH.out
    have F := H.facts; simp only [Facts, NeF, box, row, reg, cellsF, ne_eq, true_and, and_true, Nat.reduceAdd, Nat.zero_add] at F
    by_cases hlt : x ≤ lim
    · have hle1 : (x : Int) ≤ (cn : Int) + win := by omega
      have hle2 : (x : Int) ≤ 1000000000 := by omega
      obtain ⟨c1, hc1⟩ : ∃ c, codeT kn x = c := ⟨_, rfl⟩
      have HX1 : Hid (codeF kn x = c1) := by show _ = _; rw [codeF_eq (by omega) (by omega), ← hc1]; rfl
      have HPx : Hid (P x = eqB c1 code) := by show _ = _; rw [HP.out, ← hc1]
      clear hc1
      cases he1 : eqB c1 code with
      | false =>
        have HX3 := Lib.hid (findC_go HX.out (by omega) (by rw [HPx.out, he1]))
        unfold eqB at he1
        go_wp2_with (go_at_call 33; refine (specCodeAt_any _ _ _).mono ?_; rintro e w1 ⟨rfl, hb1⟩; replace H := Hp.step (by repeat (first | (with_reducible exact H) | (with_reducible apply Hp.alloc) | (with_reducible apply Hp.set) | (with_reducible apply Hp.drew) | (with_reducible apply Hp.drewN) | (with_reducible apply Hp.bytesW) | (with_reducible exact Upd.here) | (with_reducible exact Upd.hereR) | (with_reducible apply Upd.there) | (with_reducible apply Sz.alloc) | (with_reducible apply Sz.set) | (with_reducible apply Sz.drew) | (with_reducible apply Sz.drewN) | (with_reducible apply Sz.bytesW) | (with_reducible assumption) | (with_reducible exact Sz.base _))) hb1; (try simp only [List.set_cons_zero, List.set_cons_succ, List.cons_append, List.nil_append] at H); clear hb1; clear F; have F := H.facts; simp only [Facts, NeF, box, row, reg, cellsF, ne_eq, true_and, and_true, Nat.reduceAdd, Nat.zero_add] at F; rw [HX1.out])
        exact ⟨⟨x + 1, m - 1, by go_num, by omega, by omega, HX3, Lib.hid (by repeat (first | (with_reducible exact H) | (with_reducible apply Hp.alloc) | (with_reducible apply Hp.set) | (with_reducible apply Hp.drew) | (with_reducible apply Hp.drewN) | (with_reducible apply Hp.bytesW) | (with_reducible exact Upd.here) | (with_reducible exact Upd.hereR) | (with_reducible apply Upd.there) | (with_reducible apply Sz.alloc) | (with_reducible apply Sz.set) | (with_reducible apply Sz.drew) | (with_reducible apply Sz.drewN) | (with_reducible apply Sz.bytesW) | (with_reducible assumption) | (with_reducible exact Sz.base _)))⟩, by simp [intOf]; omega⟩
      | true =>
        have HWr : Hid (IntKind.i64.wrap ((x : Int) + 1) = (x : Int) + 1) := by show _ = _; rw [IntKind.wrap_i64]; omega
        have HO2 := Lib.hid (findC_hit HX.out (by omega) (by rw [HPx.out, he1]))
        unfold eqB at he1
        go_wp2_with (go_at_call 33; refine (specCodeAt_any _ _ _).mono ?_; rintro e w1 ⟨rfl, hb1⟩; replace H := Hp.step (by repeat (first | (with_reducible exact H) | (with_reducible apply Hp.alloc) | (with_reducible apply Hp.set) | (with_reducible apply Hp.drew) | (with_reducible apply Hp.drewN) | (with_reducible apply Hp.bytesW) | (with_reducible exact Upd.here) | (with_reducible exact Upd.hereR) | (with_reducible apply Upd.there) | (with_reducible apply Sz.alloc) | (with_reducible apply Sz.set) | (with_reducible apply Sz.drew) | (with_reducible apply Sz.drewN) | (with_reducible apply Sz.bytesW) | (with_reducible assumption) | (with_reducible exact Sz.base _))) hb1; (try simp only [List.set_cons_zero, List.set_cons_succ, List.cons_append, List.nil_append] at H); clear hb1; clear F; have F := H.facts; simp only [Facts, NeF, box, row, reg, cellsF, ne_eq, true_and, and_true, Nat.reduceAdd, Nat.zero_add] at F; rw [HX1.out])
        go_region_with (go_at_call 72; refine (l13Least_any _ _ _).mono ?_; rintro e w' ⟨rfl, rfl⟩; (try rw [HWr.out]))
        all_goals
          go_wp2_with fail
          refine bodyPost_ret (v := .tuple #[.agg #[.int .i64 kn, .int .i64 (leastI 1000000000 ((x : Int) + 1)), .int .i64 0, .int .i64 0], .int .i64 0]) (by simp [results, Tryd.results27, go_sem, F]) rfl ⟨by rw [HR.out, HO2.out, chkEnd, least_min, least_min']; rfl, Hp.b (by repeat (first | (with_reducible exact H) | (with_reducible apply Hp.alloc) | (with_reducible apply Hp.set) | (with_reducible apply Hp.drew) | (with_reducible apply Hp.drewN) | (with_reducible apply Hp.bytesW) | (with_reducible exact Upd.here) | (with_reducible exact Upd.hereR) | (with_reducible apply Upd.there) | (with_reducible apply Sz.alloc) | (with_reducible apply Sz.set) | (with_reducible apply Sz.drew) | (with_reducible apply Sz.drewN) | (with_reducible apply Sz.bytesW) | (with_reducible assumption) | (with_reducible exact Sz.base _)))⟩
    · have hle : (cn : Int) + win < x ∨ (1000000000 : Int) < x := by omega
      obtain rfl : m = 0 := by omega
      have HO2 := Lib.hid (findC_end HX.out)
      have HE : Hid ((wrongC kn cn f u now).val = .tuple #[.agg #[.int .i64 kn, .int .i64 cn, .int .i64 (wrongFails f), .int .i64 (wrongTil f u now)], .int .i64 3]) := rfl
      generalize hg : wrongFails f = g at HE
      generalize hg2 : wrongTil f u now = g2 at HE
      have HG := Lib.hid hg; have HG2 := Lib.hid hg2; clear hg hg2
      by_cases hle1 : (x : Int) ≤ (cn : Int) + win
      · have hle2 : ¬ (x : Int) ≤ 1000000000 := by omega
        go_wp2_with (go_at_call 73; refine (l13Wrong_any _ _ _ _ _ _ hf hn2).mono ?_; rintro e w1 ⟨rfl, hb1⟩; replace H := Hp.step (by repeat (first | (with_reducible exact H) | (with_reducible apply Hp.alloc) | (with_reducible apply Hp.set) | (with_reducible apply Hp.drew) | (with_reducible apply Hp.drewN) | (with_reducible apply Hp.bytesW) | (with_reducible exact Upd.here) | (with_reducible exact Upd.hereR) | (with_reducible apply Upd.there) | (with_reducible apply Sz.alloc) | (with_reducible apply Sz.set) | (with_reducible apply Sz.drew) | (with_reducible apply Sz.drewN) | (with_reducible apply Sz.bytesW) | (with_reducible assumption) | (with_reducible exact Sz.base _))) hb1; (try simp only [List.set_cons_zero, List.set_cons_succ, List.cons_append, List.nil_append] at H); clear hb1; clear F; have F := H.facts; simp only [Facts, NeF, box, row, reg, cellsF, ne_eq, true_and, and_true, Nat.reduceAdd, Nat.zero_add] at F; rw [HE.out])
        refine bodyPost_ret (v := .tuple #[.agg #[.int .i64 kn, .int .i64 cn, .int .i64 g, .int .i64 g2], .int .i64 3]) (by simp [results, Tryd.results27, go_sem, F]) rfl ⟨by rw [HR.out, HO2.out, chkEnd, HE.out], Hp.b (by repeat (first | (with_reducible exact H) | (with_reducible apply Hp.alloc) | (with_reducible apply Hp.set) | (with_reducible apply Hp.drew) | (with_reducible apply Hp.drewN) | (with_reducible apply Hp.bytesW) | (with_reducible exact Upd.here) | (with_reducible exact Upd.hereR) | (with_reducible apply Upd.there) | (with_reducible apply Sz.alloc) | (with_reducible apply Sz.set) | (with_reducible apply Sz.drew) | (with_reducible apply Sz.drewN) | (with_reducible apply Sz.bytesW) | (with_reducible assumption) | (with_reducible exact Sz.base _)))⟩
      · skip
        go_wp2_with (go_at_call 73; refine (l13Wrong_any _ _ _ _ _ _ hf hn2).mono ?_; rintro e w1 ⟨rfl, hb1⟩; replace H := Hp.step (by repeat (first | (with_reducible exact H) | (with_reducible apply Hp.alloc) | (with_reducible apply Hp.set) | (with_reducible apply Hp.drew) | (with_reducible apply Hp.drewN) | (with_reducible apply Hp.bytesW) | (with_reducible exact Upd.here) | (with_reducible exact Upd.hereR) | (with_reducible apply Upd.there) | (with_reducible apply Sz.alloc) | (with_reducible apply Sz.set) | (with_reducible apply Sz.drew) | (with_reducible apply Sz.drewN) | (with_reducible apply Sz.bytesW) | (with_reducible assumption) | (with_reducible exact Sz.base _))) hb1; (try simp only [List.set_cons_zero, List.set_cons_succ, List.cons_append, List.nil_append] at H); clear hb1; clear F; have F := H.facts; simp only [Facts, NeF, box, row, reg, cellsF, ne_eq, true_and, and_true, Nat.reduceAdd, Nat.zero_add] at F; rw [HE.out])
        refine bodyPost_ret (v := .tuple #[.agg #[.int .i64 kn, .int .i64 cn, .int .i64 g, .int .i64 g2], .int .i64 3]) (by simp [results, Tryd.results27, go_sem, F]) rfl ⟨by rw [HR.out, HO2.out, chkEnd, HE.out], Hp.b (by repeat (first | (with_reducible exact H) | (with_reducible apply Hp.alloc) | (with_reducible apply Hp.set) | (with_reducible apply Hp.drew) | (with_reducible apply Hp.drewN) | (with_reducible apply Hp.bytesW) | (with_reducible exact Upd.here) | (with_reducible exact Upd.hereR) | (with_reducible apply Upd.there) | (with_reducible apply Sz.alloc) | (with_reducible apply Sz.set) | (with_reducible apply Sz.drew) | (with_reducible apply Sz.drewN) | (with_reducible apply Sz.bytesW) | (with_reducible assumption) | (with_reducible exact Sz.base _)))⟩
end Go.Proofs.YtonbebacioocnaaDoor

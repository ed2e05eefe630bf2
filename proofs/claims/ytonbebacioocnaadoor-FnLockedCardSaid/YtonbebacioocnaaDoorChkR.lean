/- Two codes in a row, in the program: the walk. No condition. -/
import Derived.Test.YtonbebacioocnaaDoorChk
import Derived.Deep.RegionWith
import Derived.Deep.DrawnRows
namespace Go.Proofs.YtonbebacioocnaaDoor
open Go.RowKit
set_option linter.unusedVariables false
set_option linter.unusedSimpArgs false
attribute [local go_sem ↓] Go.wp_at_zero Go.wp_at_succ
theorem codeAt_i (k x : Int) (w : World) (hk : 0 ≤ k ∧ k ≤ 1099511627776) (hx : 0 ≤ x ∧ x ≤ 1000000001) (ht : tabOk w) :
    Calls Tryd.prog 70 #[.int .i64 k, .int .i64 x] w fun e w' => e = .returned (.string (codeT k.toNat x.toNat)) ∧ Below w.heap.size w w' := by
  obtain ⟨kn, rfl⟩ := Int.eq_ofNat_of_zero_le hk.1
  obtain ⟨xn, rfl⟩ := Int.eq_ofNat_of_zero_le hx.1
  exact codeAt_any kn xn w (by omega) (by omega) ht
set_option maxHeartbeats 8000000 in
set_option maxRecDepth 100000 in
theorem implResync_any (k c f u now : Int) (a b : ByteArray) (w : World) (ht : tabOk w) :
    Calls Tryd.prog 25 #[.agg #[.int .i64 k, .int .i64 c, .int .i64 f, .int .i64 u], .string a, .string b, .int .i64 now] w fun e w' => e = .returned (resyncV k c f u a b now).val ∧ Below w.heap.size w w' := by
  have H := Hp.nil w
  cases hd : devOk k c f u with
  | false =>
    have HR : Hid (resyncV k c f u a b now = ⟨k, c, f, u, 1⟩) := by show _ = _; rw [resyncV, if_neg (by rw [hd]; simp)]
    go_enter Tryd.func25, Tryd.ntmps25
    go_wp2_with (first | (go_at_call 74; refine (isDevice_any _ _ _ _ _).mono ?_; rintro e w1 ⟨rfl, hb1⟩; replace H := Hp.step (by repeat (first | (with_reducible exact H) | (with_reducible apply Hp.alloc) | (with_reducible apply Hp.set) | (with_reducible apply Hp.drew) | (with_reducible apply Hp.drewN) | (with_reducible apply Hp.bytesW) | (with_reducible exact Upd.here) | (with_reducible exact Upd.hereR) | (with_reducible apply Upd.there) | (with_reducible apply Sz.alloc) | (with_reducible apply Sz.set) | (with_reducible apply Sz.drew) | (with_reducible apply Sz.drewN) | (with_reducible apply Sz.bytesW) | (with_reducible assumption) | (with_reducible exact Sz.base _))) hb1; (try simp only [List.set_cons_zero, List.set_cons_succ, List.cons_append, List.nil_append] at H); have F := H.facts; simp only [Facts, NeF, box, row, reg, cellsF, ne_eq, true_and, and_true, Nat.reduceAdd, Nat.zero_add] at F) | (go_at_call 69; refine (within_any _ _ _ _).mono ?_; rintro e w' ⟨rfl, rfl⟩))
    refine bodyPost_ret (v := .tuple #[.agg #[.int .i64 k, .int .i64 c, .int .i64 f, .int .i64 u], .int .i64 1]) (by simp [results, Tryd.results25, go_sem, F]) rfl ⟨by rw [HR.out]; rfl, Hp.b (by repeat (first | (with_reducible exact H) | (with_reducible apply Hp.alloc) | (with_reducible apply Hp.set) | (with_reducible apply Hp.drew) | (with_reducible apply Hp.drewN) | (with_reducible apply Hp.bytesW) | (with_reducible exact Upd.here) | (with_reducible exact Upd.hereR) | (with_reducible apply Upd.there) | (with_reducible apply Sz.alloc) | (with_reducible apply Sz.set) | (with_reducible apply Sz.drew) | (with_reducible apply Sz.drewN) | (with_reducible apply Sz.bytesW) | (with_reducible assumption) | (with_reducible exact Sz.base _)))⟩
  | true =>
  cases hn : inR now 0 1000000000 with
  | false =>
    have HR : Hid (resyncV k c f u a b now = ⟨k, c, f, u, 1⟩) := by show _ = _; rw [resyncV, if_neg (by rw [hn]; simp)]
    go_enter Tryd.func25, Tryd.ntmps25
    go_wp2_with (first | (go_at_call 74; refine (isDevice_any _ _ _ _ _).mono ?_; rintro e w1 ⟨rfl, hb1⟩; replace H := Hp.step (by repeat (first | (with_reducible exact H) | (with_reducible apply Hp.alloc) | (with_reducible apply Hp.set) | (with_reducible apply Hp.drew) | (with_reducible apply Hp.drewN) | (with_reducible apply Hp.bytesW) | (with_reducible exact Upd.here) | (with_reducible exact Upd.hereR) | (with_reducible apply Upd.there) | (with_reducible apply Sz.alloc) | (with_reducible apply Sz.set) | (with_reducible apply Sz.drew) | (with_reducible apply Sz.drewN) | (with_reducible apply Sz.bytesW) | (with_reducible assumption) | (with_reducible exact Sz.base _))) hb1; (try simp only [List.set_cons_zero, List.set_cons_succ, List.cons_append, List.nil_append] at H); have F := H.facts; simp only [Facts, NeF, box, row, reg, cellsF, ne_eq, true_and, and_true, Nat.reduceAdd, Nat.zero_add] at F) | (go_at_call 69; refine (within_any _ _ _ _).mono ?_; rintro e w' ⟨rfl, rfl⟩))
    refine bodyPost_ret (v := .tuple #[.agg #[.int .i64 k, .int .i64 c, .int .i64 f, .int .i64 u], .int .i64 1]) (by simp [results, Tryd.results25, go_sem, F]) rfl ⟨by rw [HR.out]; rfl, Hp.b (by repeat (first | (with_reducible exact H) | (with_reducible apply Hp.alloc) | (with_reducible apply Hp.set) | (with_reducible apply Hp.drew) | (with_reducible apply Hp.drewN) | (with_reducible apply Hp.bytesW) | (with_reducible exact Upd.here) | (with_reducible exact Upd.hereR) | (with_reducible apply Upd.there) | (with_reducible apply Sz.alloc) | (with_reducible apply Sz.set) | (with_reducible apply Sz.drew) | (with_reducible apply Sz.drewN) | (with_reducible apply Sz.bytesW) | (with_reducible assumption) | (with_reducible exact Sz.base _)))⟩
  | true =>
  obtain ⟨⟨hk0, hk1⟩, ⟨hc0, hc1⟩, hf, hu⟩ := devOk_iff.1 hd
  obtain ⟨kn, rfl⟩ := Int.eq_ofNat_of_zero_le hk0
  obtain ⟨cn, rfl⟩ := Int.eq_ofNat_of_zero_le hc0
  have hn2 := inR_true.1 hn
  obtain ⟨P, hP⟩ : ∃ P : Nat → Bool, P = fun x => eqB (codeT kn x) a && eqB (codeT kn (x + 1)) b := ⟨_, rfl⟩
  have HP := Lib.hid hP
  obtain ⟨lim, hlim⟩ : ∃ n : Nat, min ((cn : Int) + 100) 999999999 = n := ⟨(min ((cn : Int) + 100) 999999999).toNat, by omega⟩
  obtain ⟨o, ho⟩ : ∃ o, findC P (lim + 1 - cn) cn = o := ⟨_, rfl⟩
  have HV : Hid (resyncV kn cn f u a b now = chkIn P kn cn f u now 2 lim) := by show _ = _; rw [resyncV, if_pos ⟨hd, hn⟩, hlim, hP]; rfl
  clear hP
  have HO := Lib.hid ho
  by_cases hb : now < u
  · have HR : Hid (resyncV kn cn f u a b now = ⟨kn, cn, f, u, 2⟩) := by show _ = _; rw [HV.out, chkIn, if_pos hb]
    clear ho
    go_enter Tryd.func25, Tryd.ntmps25
    go_wp2_with (first | (go_at_call 74; refine (isDevice_any _ _ _ _ _).mono ?_; rintro e w1 ⟨rfl, hb1⟩; replace H := Hp.step (by repeat (first | (with_reducible exact H) | (with_reducible apply Hp.alloc) | (with_reducible apply Hp.set) | (with_reducible apply Hp.drew) | (with_reducible apply Hp.drewN) | (with_reducible apply Hp.bytesW) | (with_reducible exact Upd.here) | (with_reducible exact Upd.hereR) | (with_reducible apply Upd.there) | (with_reducible apply Sz.alloc) | (with_reducible apply Sz.set) | (with_reducible apply Sz.drew) | (with_reducible apply Sz.drewN) | (with_reducible apply Sz.bytesW) | (with_reducible assumption) | (with_reducible exact Sz.base _))) hb1; (try simp only [List.set_cons_zero, List.set_cons_succ, List.cons_append, List.nil_append] at H); have F := H.facts; simp only [Facts, NeF, box, row, reg, cellsF, ne_eq, true_and, and_true, Nat.reduceAdd, Nat.zero_add] at F) | (go_at_call 69; refine (within_any _ _ _ _).mono ?_; rintro e w' ⟨rfl, rfl⟩))
    refine bodyPost_ret (v := .tuple #[.agg #[.int .i64 kn, .int .i64 cn, .int .i64 f, .int .i64 u], .int .i64 2]) (by simp [results, Tryd.results25, go_sem, F]) rfl ⟨by rw [HR.out]; rfl, Hp.b (by repeat (first | (with_reducible exact H) | (with_reducible apply Hp.alloc) | (with_reducible apply Hp.set) | (with_reducible apply Hp.drew) | (with_reducible apply Hp.drewN) | (with_reducible apply Hp.bytesW) | (with_reducible exact Upd.here) | (with_reducible exact Upd.hereR) | (with_reducible apply Upd.there) | (with_reducible apply Sz.alloc) | (with_reducible apply Sz.set) | (with_reducible apply Sz.drew) | (with_reducible apply Sz.drewN) | (with_reducible apply Sz.bytesW) | (with_reducible assumption) | (with_reducible exact Sz.base _)))⟩
  have HR : Hid (resyncV kn cn f u a b now = chkEnd kn cn f u now 2 o) := by show _ = _; rw [HV.out, chkIn, if_neg hb, Int.toNat_natCast, ho]
  clear ho
  have hl1 : lim < 1000000000 := by omega
  have hl2 : cn ≤ lim + 1 := by omega
  have hlim2 : ((cn : Int) + 100 = lim ∨ (lim : Int) + 1 = 1000000000) ∧ (lim : Int) ≤ cn + 100 ∧ (lim : Int) < 1000000000 := by omega
  have HLIM := Lib.hid hlim2
  clear hlim2
  clear hlim
  go_enter Tryd.func25, Tryd.ntmps25
  go_wp2_with (first | (go_at_call 74; refine (isDevice_any _ _ _ _ _).mono ?_; rintro e w1 ⟨rfl, hb1⟩; replace H := Hp.step (by repeat (first | (with_reducible exact H) | (with_reducible apply Hp.alloc) | (with_reducible apply Hp.set) | (with_reducible apply Hp.drew) | (with_reducible apply Hp.drewN) | (with_reducible apply Hp.bytesW) | (with_reducible exact Upd.here) | (with_reducible exact Upd.hereR) | (with_reducible apply Upd.there) | (with_reducible apply Sz.alloc) | (with_reducible apply Sz.set) | (with_reducible apply Sz.drew) | (with_reducible apply Sz.drewN) | (with_reducible apply Sz.bytesW) | (with_reducible assumption) | (with_reducible exact Sz.base _))) hb1; (try simp only [List.set_cons_zero, List.set_cons_succ, List.cons_append, List.nil_append] at H); have F := H.facts; simp only [Facts, NeF, box, row, reg, cellsF, ne_eq, true_and, and_true, Nat.reduceAdd, Nat.zero_add] at F) | (go_at_call 69; refine (within_any _ _ _ _).mono ?_; rintro e w' ⟨rfl, rfl⟩))
  clear F
  go_loopw [10] (fun i wr => ∃ x m : Nat, i = .int .i64 x ∧ cn ≤ x ∧ x + m = lim + 1 ∧ Hid (findC P m x = o) ∧ Hid (Hp w wr [box (w.heap.size + 1) 36 [.int .i64 0, .int .i64 0, .int .i64 0, .int .i64 0], box w.heap.size 36 [.int .i64 kn, .int .i64 cn, .int .i64 f, .int .i64 u]])) (fun i _ => lim + 1 - (intOf i).toNat)
  case atStart => exact ⟨cn, lim + 1 - cn, rfl, Nat.le_refl _, by omega, HO, Lib.hid (by repeat (first | (with_reducible exact H) | (with_reducible apply Hp.alloc) | (with_reducible apply Hp.set) | (with_reducible apply Hp.drew) | (with_reducible apply Hp.drewN) | (with_reducible apply Hp.bytesW) | (with_reducible exact Upd.here) | (with_reducible exact Upd.hereR) | (with_reducible apply Upd.there) | (with_reducible apply Sz.alloc) | (with_reducible apply Sz.set) | (with_reducible apply Sz.drew) | (with_reducible apply Sz.drewN) | (with_reducible apply Sz.bytesW) | (with_reducible assumption) | (with_reducible exact Sz.base _)))⟩
  case round =>
    clear H
    obtain ⟨x, m, rfl, hx1, hx2, HX, HH⟩ := hrel
    have H := HH.out
    have F := H.facts; simp only [Facts, NeF, box, row, reg, cellsF, ne_eq, true_and, and_true, Nat.reduceAdd, Nat.zero_add] at F
    by_cases hlt : x ≤ lim
    · have hle : (x : Int) ≤ min ((cn : Int) + 100) 999999999 := by have := HLIM.out; exact Int.le_min.2 ⟨by omega, by omega⟩
      obtain ⟨c1, hc1⟩ : ∃ c, codeT kn x = c := ⟨_, rfl⟩
      have HX1 : Hid (codeT (kn : Int).toNat (x : Int).toNat = c1) := hc1
      obtain ⟨c2, hc2⟩ : ∃ c, codeT kn (x + 1) = c := ⟨_, rfl⟩
      have HX2 : Hid (codeT (kn : Int).toNat ((x : Int) + 1).toNat = c2) := hc2
      have HPx : Hid (P x = (eqB c1 a && eqB c2 b)) := by show _ = _; rw [HP.out, ← hc1, ← hc2]
      clear hc1 hc2
      cases he1 : eqB c1 a with
      | false =>
        have HX3 := Lib.hid (findC_go HX.out (by omega) (by rw [HPx.out, he1]; rfl))
        unfold eqB at he1
        go_wp2_with (go_at_call 70; refine (codeAt_i _ _ _ (by omega) (by omega) (ht.on (Hp.b (by repeat (first | (with_reducible exact H) | (with_reducible apply Hp.alloc) | (with_reducible apply Hp.set) | (with_reducible apply Hp.drew) | (with_reducible apply Hp.drewN) | (with_reducible apply Hp.bytesW) | (with_reducible exact Upd.here) | (with_reducible exact Upd.hereR) | (with_reducible apply Upd.there) | (with_reducible apply Sz.alloc) | (with_reducible apply Sz.set) | (with_reducible apply Sz.drew) | (with_reducible apply Sz.drewN) | (with_reducible apply Sz.bytesW) | (with_reducible assumption) | (with_reducible exact Sz.base _)))))).mono ?_; rintro e w1 ⟨rfl, hb1⟩; replace H := Hp.step (by repeat (first | (with_reducible exact H) | (with_reducible apply Hp.alloc) | (with_reducible apply Hp.set) | (with_reducible apply Hp.drew) | (with_reducible apply Hp.drewN) | (with_reducible apply Hp.bytesW) | (with_reducible exact Upd.here) | (with_reducible exact Upd.hereR) | (with_reducible apply Upd.there) | (with_reducible apply Sz.alloc) | (with_reducible apply Sz.set) | (with_reducible apply Sz.drew) | (with_reducible apply Sz.drewN) | (with_reducible apply Sz.bytesW) | (with_reducible assumption) | (with_reducible exact Sz.base _))) hb1; (try simp only [List.set_cons_zero, List.set_cons_succ, List.cons_append, List.nil_append] at H); clear hb1; clear F; have F := H.facts; simp only [Facts, NeF, box, row, reg, cellsF, ne_eq, true_and, and_true, Nat.reduceAdd, Nat.zero_add] at F; first | rw [HX1.out] | rw [HX2.out])
        exact ⟨⟨x + 1, m - 1, by go_num, by omega, by omega, HX3, Lib.hid (by repeat (first | (with_reducible exact H) | (with_reducible apply Hp.alloc) | (with_reducible apply Hp.set) | (with_reducible apply Hp.drew) | (with_reducible apply Hp.drewN) | (with_reducible apply Hp.bytesW) | (with_reducible exact Upd.here) | (with_reducible exact Upd.hereR) | (with_reducible apply Upd.there) | (with_reducible apply Sz.alloc) | (with_reducible apply Sz.set) | (with_reducible apply Sz.drew) | (with_reducible apply Sz.drewN) | (with_reducible apply Sz.bytesW) | (with_reducible assumption) | (with_reducible exact Sz.base _)))⟩, by simp [intOf]; omega⟩
      | true =>
        cases he2 : eqB c2 b with
        | false =>
          have HX3 := Lib.hid (findC_go HX.out (by omega) (by rw [HPx.out, he1, he2]; rfl))
          unfold eqB at he1 he2
          go_wp2_with (go_at_call 70; refine (codeAt_i _ _ _ (by omega) (by omega) (ht.on (Hp.b (by repeat (first | (with_reducible exact H) | (with_reducible apply Hp.alloc) | (with_reducible apply Hp.set) | (with_reducible apply Hp.drew) | (with_reducible apply Hp.drewN) | (with_reducible apply Hp.bytesW) | (with_reducible exact Upd.here) | (with_reducible exact Upd.hereR) | (with_reducible apply Upd.there) | (with_reducible apply Sz.alloc) | (with_reducible apply Sz.set) | (with_reducible apply Sz.drew) | (with_reducible apply Sz.drewN) | (with_reducible apply Sz.bytesW) | (with_reducible assumption) | (with_reducible exact Sz.base _)))))).mono ?_; rintro e w1 ⟨rfl, hb1⟩; replace H := Hp.step (by repeat (first | (with_reducible exact H) | (with_reducible apply Hp.alloc) | (with_reducible apply Hp.set) | (with_reducible apply Hp.drew) | (with_reducible apply Hp.drewN) | (with_reducible apply Hp.bytesW) | (with_reducible exact Upd.here) | (with_reducible exact Upd.hereR) | (with_reducible apply Upd.there) | (with_reducible apply Sz.alloc) | (with_reducible apply Sz.set) | (with_reducible apply Sz.drew) | (with_reducible apply Sz.drewN) | (with_reducible apply Sz.bytesW) | (with_reducible assumption) | (with_reducible exact Sz.base _))) hb1; (try simp only [List.set_cons_zero, List.set_cons_succ, List.cons_append, List.nil_append] at H); clear hb1; clear F; have F := H.facts; simp only [Facts, NeF, box, row, reg, cellsF, ne_eq, true_and, and_true, Nat.reduceAdd, Nat.zero_add] at F; first | rw [HX1.out] | rw [HX2.out])
          exact ⟨⟨x + 1, m - 1, by go_num, by omega, by omega, HX3, Lib.hid (by repeat (first | (with_reducible exact H) | (with_reducible apply Hp.alloc) | (with_reducible apply Hp.set) | (with_reducible apply Hp.drew) | (with_reducible apply Hp.drewN) | (with_reducible apply Hp.bytesW) | (with_reducible exact Upd.here) | (with_reducible exact Upd.hereR) | (with_reducible apply Upd.there) | (with_reducible apply Sz.alloc) | (with_reducible apply Sz.set) | (with_reducible apply Sz.drew) | (with_reducible apply Sz.drewN) | (with_reducible apply Sz.bytesW) | (with_reducible assumption) | (with_reducible exact Sz.base _)))⟩, by simp [intOf]; omega⟩
        | true =>
          have HO2 := Lib.hid (findC_hit HX.out (by omega) (by rw [HPx.out, he1, he2]; rfl))
          unfold eqB at he1 he2
          go_wp2_with (go_at_call 70; refine (codeAt_i _ _ _ (by omega) (by omega) (ht.on (Hp.b (by repeat (first | (with_reducible exact H) | (with_reducible apply Hp.alloc) | (with_reducible apply Hp.set) | (with_reducible apply Hp.drew) | (with_reducible apply Hp.drewN) | (with_reducible apply Hp.bytesW) | (with_reducible exact Upd.here) | (with_reducible exact Upd.hereR) | (with_reducible apply Upd.there) | (with_reducible apply Sz.alloc) | (with_reducible apply Sz.set) | (with_reducible apply Sz.drew) | (with_reducible apply Sz.drewN) | (with_reducible apply Sz.bytesW) | (with_reducible assumption) | (with_reducible exact Sz.base _)))))).mono ?_; rintro e w1 ⟨rfl, hb1⟩; replace H := Hp.step (by repeat (first | (with_reducible exact H) | (with_reducible apply Hp.alloc) | (with_reducible apply Hp.set) | (with_reducible apply Hp.drew) | (with_reducible apply Hp.drewN) | (with_reducible apply Hp.bytesW) | (with_reducible exact Upd.here) | (with_reducible exact Upd.hereR) | (with_reducible apply Upd.there) | (with_reducible apply Sz.alloc) | (with_reducible apply Sz.set) | (with_reducible apply Sz.drew) | (with_reducible apply Sz.drewN) | (with_reducible apply Sz.bytesW) | (with_reducible assumption) | (with_reducible exact Sz.base _))) hb1; (try simp only [List.set_cons_zero, List.set_cons_succ, List.cons_append, List.nil_append] at H); clear hb1; clear F; have F := H.facts; simp only [Facts, NeF, box, row, reg, cellsF, ne_eq, true_and, and_true, Nat.reduceAdd, Nat.zero_add] at F; first | rw [HX1.out] | rw [HX2.out])
          refine bodyPost_ret (v := .tuple #[.agg #[.int .i64 kn, .int .i64 (min ((x : Int) + 2) 1000000000), .int .i64 0, .int .i64 0], .int .i64 0]) (by simp [results, Tryd.results25, go_sem, F]) rfl ⟨by rw [HR.out, HO2.out, chkEnd, least_min]; rfl, Hp.b (by repeat (first | (with_reducible exact H) | (with_reducible apply Hp.alloc) | (with_reducible apply Hp.set) | (with_reducible apply Hp.drew) | (with_reducible apply Hp.drewN) | (with_reducible apply Hp.bytesW) | (with_reducible exact Upd.here) | (with_reducible exact Upd.hereR) | (with_reducible apply Upd.there) | (with_reducible apply Sz.alloc) | (with_reducible apply Sz.set) | (with_reducible apply Sz.drew) | (with_reducible apply Sz.drewN) | (with_reducible apply Sz.bytesW) | (with_reducible assumption) | (with_reducible exact Sz.base _)))⟩
    · have hle : ¬ (x : Int) ≤ min ((cn : Int) + 100) 999999999 := fun h => by have := HLIM.out; have h1 := (Int.le_min.1 h).1; have h2 := (Int.le_min.1 h).2; omega
      obtain rfl : m = 0 := by omega
      have HO2 := Lib.hid (findC_end HX.out)
      have HV2 : Hid ((wrongC kn cn f u now).val = .tuple #[.agg #[.int .i64 kn, .int .i64 cn, .int .i64 (wrongFails f), .int .i64 (wrongTil f u now)], .int .i64 3]) := rfl
      have HE : Hid ((wrongC kn cn f u now).dev = .agg #[.int .i64 kn, .int .i64 cn, .int .i64 (wrongFails f), .int .i64 (wrongTil f u now)]) := rfl
      generalize wrongFails f = g at HE HV2
      generalize wrongTil f u now = g2 at HE HV2
      go_wp2_with (go_at_call 75; refine (wrongCode_any _ _ _ _ _ _ hf hn2).mono ?_; rintro e w1 ⟨rfl, hb1⟩; replace H := Hp.step (by repeat (first | (with_reducible exact H) | (with_reducible apply Hp.alloc) | (with_reducible apply Hp.set) | (with_reducible apply Hp.drew) | (with_reducible apply Hp.drewN) | (with_reducible apply Hp.bytesW) | (with_reducible exact Upd.here) | (with_reducible exact Upd.hereR) | (with_reducible apply Upd.there) | (with_reducible apply Sz.alloc) | (with_reducible apply Sz.set) | (with_reducible apply Sz.drew) | (with_reducible apply Sz.drewN) | (with_reducible apply Sz.bytesW) | (with_reducible assumption) | (with_reducible exact Sz.base _))) hb1; (try simp only [List.set_cons_zero, List.set_cons_succ, List.cons_append, List.nil_append] at H); clear hb1; clear F; have F := H.facts; simp only [Facts, NeF, box, row, reg, cellsF, ne_eq, true_and, and_true, Nat.reduceAdd, Nat.zero_add] at F; rw [HE.out])
      refine bodyPost_ret (v := .tuple #[.agg #[.int .i64 kn, .int .i64 cn, .int .i64 g, .int .i64 g2], .int .i64 3]) (by simp [results, Tryd.results25, go_sem, F]) rfl ⟨by rw [HR.out, HO2.out, chkEnd, HV2.out], Hp.b (by repeat (first | (with_reducible exact H) | (with_reducible apply Hp.alloc) | (with_reducible apply Hp.set) | (with_reducible apply Hp.drew) | (with_reducible apply Hp.drewN) | (with_reducible apply Hp.bytesW) | (with_reducible exact Upd.here) | (with_reducible exact Upd.hereR) | (with_reducible apply Upd.there) | (with_reducible apply Sz.alloc) | (with_reducible apply Sz.set) | (with_reducible apply Sz.drew) | (with_reducible apply Sz.drewN) | (with_reducible apply Sz.bytesW) | (with_reducible assumption) | (with_reducible exact Sz.base _)))⟩
end Go.Proofs.YtonbebacioocnaaDoor

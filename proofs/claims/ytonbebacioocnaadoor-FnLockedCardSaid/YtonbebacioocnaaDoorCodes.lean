/- Codes of counts in a row: the walks. No condition. -/
import Derived.Test.YtonbebacioocnaaDoorChkR
import Derived.Test.YtonbebacioocnaaDoorEnStr
namespace Go.Proofs.YtonbebacioocnaaDoor
open Go.RowKit
set_option linter.unusedVariables false
set_option linter.unusedSimpArgs false
def codesFrom (k c n : Int) : List ByteArray := if inR k 0 1099511627776 = true ∧ inR n 0 200 = true ∧ (0 < n → 0 ≤ c ∧ c + n - 1 ≤ 1000000000) then (List.range n.toNat).map (fun i => codeT k.toNat (c.toNat + i)) else []
set_option maxHeartbeats 4000000 in
set_option maxRecDepth 10000 in
theorem specCodesFrom_any (k c n : Int) (w : World) :
    Calls Tryd.prog 18 #[.int .i64 k, .int .i64 c, .int .i64 n] w fun e w' => ∃ A' c', e = .returned (.slice A' (codesFrom k c n).length c') ∧ Hp w w' [rStr A' c' (codesFrom k c n)] := by
  have H := Hp.nil w
  cases hk : inR k 0 1099511627776 with
  | false =>
    have HR : Hid (codesFrom k c n = []) := by show _ = _; rw [codesFrom, if_neg (by rw [hk]; simp)]
    go_enter Tryd.func18, Tryd.ntmps18
    go_wp2_with (first | (go_at_call 67; refine (l04Key_any _ _).mono ?_; rintro e w' ⟨rfl, rfl⟩) | (go_at_call 64; refine (l01In_any _ _ _ _).mono ?_; rintro e w' ⟨rfl, rfl⟩))
    go_ret
    rw [HR.out]
    exact ⟨none, 0, rfl, Hp.give (Hp.cons_nilRow (by repeat (first | (with_reducible exact H) | (with_reducible apply Hp.alloc) | (with_reducible apply Hp.set) | (with_reducible apply Hp.drew) | (with_reducible apply Hp.drewN) | (with_reducible apply Hp.bytesW) | (with_reducible exact Upd.here) | (with_reducible exact Upd.hereR) | (with_reducible apply Upd.there) | (with_reducible apply Sz.alloc) | (with_reducible apply Sz.set) | (with_reducible apply Sz.drew) | (with_reducible apply Sz.drewN) | (with_reducible apply Sz.bytesW) | (with_reducible assumption) | (with_reducible exact Sz.base _))) 9 1) [0] (by decide) (by rfl)⟩
  | true =>
  cases hn : inR n 0 200 with
  | false =>
    have HR : Hid (codesFrom k c n = []) := by show _ = _; rw [codesFrom, if_neg (by rw [hn]; simp)]
    go_enter Tryd.func18, Tryd.ntmps18
    go_wp2_with (first | (go_at_call 67; refine (l04Key_any _ _).mono ?_; rintro e w' ⟨rfl, rfl⟩) | (go_at_call 64; refine (l01In_any _ _ _ _).mono ?_; rintro e w' ⟨rfl, rfl⟩))
    go_ret
    rw [HR.out]
    exact ⟨none, 0, rfl, Hp.give (Hp.cons_nilRow (by repeat (first | (with_reducible exact H) | (with_reducible apply Hp.alloc) | (with_reducible apply Hp.set) | (with_reducible apply Hp.drew) | (with_reducible apply Hp.drewN) | (with_reducible apply Hp.bytesW) | (with_reducible exact Upd.here) | (with_reducible exact Upd.hereR) | (with_reducible apply Upd.there) | (with_reducible apply Sz.alloc) | (with_reducible apply Sz.set) | (with_reducible apply Sz.drew) | (with_reducible apply Sz.drewN) | (with_reducible apply Sz.bytesW) | (with_reducible assumption) | (with_reducible exact Sz.base _))) 9 1) [0] (by decide) (by rfl)⟩
  | true =>
  have hk2 := inR_true.1 hk
  have hn2 := inR_true.1 hn
  by_cases hp : 0 < n ∧ ¬ (0 ≤ c ∧ c + n - 1 ≤ 1000000000)
  · have HR : Hid (codesFrom k c n = []) := by show _ = _; rw [codesFrom, if_neg (by rintro ⟨_, _, h3⟩; exact hp.2 (h3 hp.1))]
    obtain ⟨hp1, hp2⟩ := hp
    have hc2 : inR c 0 (1000000000 - n + 1) = false := by rw [inR_false]; omega
    clear hp2
    go_enter Tryd.func18, Tryd.ntmps18
    go_wp2_with (first | (go_at_call 67; refine (l04Key_any _ _).mono ?_; rintro e w' ⟨rfl, rfl⟩) | (go_at_call 64; refine (l01In_any _ _ _ _).mono ?_; rintro e w' ⟨rfl, rfl⟩))
    go_ret
    rw [HR.out]
    exact ⟨none, 0, rfl, Hp.give (Hp.cons_nilRow (by repeat (first | (with_reducible exact H) | (with_reducible apply Hp.alloc) | (with_reducible apply Hp.set) | (with_reducible apply Hp.drew) | (with_reducible apply Hp.drewN) | (with_reducible apply Hp.bytesW) | (with_reducible exact Upd.here) | (with_reducible exact Upd.hereR) | (with_reducible apply Upd.there) | (with_reducible apply Sz.alloc) | (with_reducible apply Sz.set) | (with_reducible apply Sz.drew) | (with_reducible apply Sz.drewN) | (with_reducible apply Sz.bytesW) | (with_reducible assumption) | (with_reducible exact Sz.base _))) 9 1) [0] (by decide) (by rfl)⟩
  have hv : 0 < n → 0 ≤ c ∧ c + n - 1 ≤ 1000000000 := fun h => Classical.byContradiction fun h2 => hp ⟨h, h2⟩
  clear hp
  obtain ⟨nn, rfl⟩ := Int.eq_ofNat_of_zero_le hn2.1
  obtain ⟨f, hf⟩ : ∃ f : Nat → ByteArray, f = fun i => codeT k.toNat (c.toNat + i) := ⟨_, rfl⟩
  have HR : Hid (codesFrom k c nn = (List.range nn).map f) := by show _ = _; rw [codesFrom, if_pos ⟨hk, hn, hv⟩, hf]; rfl
  have HF := Lib.hid hf; clear hf
  rw [HR.out]
  have HV := Lib.hid hv
  obtain ⟨i1, hi1, hy0, hy1, hy2⟩ := info_parts Tryd.infoStr
  have hn3 : nn ≤ 200 := by omega
  by_cases h0 : (0 : Int) < nn
  · have hv2 := hv h0
    have hc2 : inR c 0 (1000000000 - (nn : Int) + 1) = true := by rw [inR_true]; omega
    clear hv
    obtain ⟨hv3, hv4⟩ := hv2
    go_enter Tryd.func18, Tryd.ntmps18
    go_wp2_with (first | (go_at_call 67; refine (l04Key_any _ _).mono ?_; rintro e w' ⟨rfl, rfl⟩) | (go_at_call 64; refine (l01In_any _ _ _ _).mono ?_; rintro e w' ⟨rfl, rfl⟩))
    go_loopw [7, 8] (fun v i wr => ∃ x : Nat, x ≤ nn ∧ i = .int .i64 x ∧ ∃ A' c', v = .slice A' ((List.range x).map f).length c' ∧ Hid (Hp w wr [rStr A' c' ((List.range x).map f)])) (fun _ i _ => nn - (intOf i).toNat)
    case atStart => exact ⟨0, Nat.zero_le _, rfl, some ⟨w.heap.size, 0, none⟩, 0, rfl, Lib.hid (Hp.give (Hp.boxRow (by repeat (first | (with_reducible exact H) | (with_reducible apply Hp.alloc) | (with_reducible apply Hp.set) | (with_reducible apply Hp.drew) | (with_reducible apply Hp.drewN) | (with_reducible apply Hp.bytesW) | (with_reducible exact Upd.here) | (with_reducible exact Upd.hereR) | (with_reducible apply Upd.there) | (with_reducible apply Sz.alloc) | (with_reducible apply Sz.set) | (with_reducible apply Sz.drew) | (with_reducible apply Sz.drewN) | (with_reducible apply Sz.bytesW) | (with_reducible assumption) | (with_reducible exact Sz.base _))) 0 1 0 0 (by rfl) (by rfl) (Nat.le_refl _) (Nat.zero_le _)) [0] (by decide) (by rfl))⟩
    case round =>
      clear H
      obtain ⟨x, hx, rfl, A', c', rfl, HP⟩ := hrel
      have H := HP.out
      have F := H.facts; simp only [Facts, NeF, box, row, reg, cellsF, rStr, ne_eq, true_and, and_true, Nat.reduceAdd, Nat.zero_add] at F
      by_cases hlt : x < nn
      · have hx1 : (x : Int) < (nn : Int) := by omega
        have hv2 := HV.out (by omega)
        have HT : Hid ((List.range (x + 1)).map f = (List.range x).map f ++ [f x]) := by show _ = _; rw [List.range_succ, List.map_append]; rfl
        have hlen : ((List.range x).map f).length = x := by simp
        have HL := Lib.hid hlen
        have hl : ((List.range x).map f).length + 1 ≤ maxLen := by unfold maxLen; omega
        have hl2 : ((List.range x).map f).length + 1 ≤ 1000 := by omega
        have HX : Hid (codeF k (c + x) = f x) := by show _ = _; rw [codeF_eq (by omega) (by omega), HF.out]; show codeT _ _ = codeT _ _; rw [show (c + (x : Int)).toNat = c.toNat + x by omega]
        clear hlen HP
        go_wp2_with fail
        refine (specCodeAt_any _ _ _).mono ?_
        rintro e w1 ⟨rfl, hb1⟩
        replace H := Hp.step (by repeat (first | (with_reducible exact H) | (with_reducible apply Hp.alloc) | (with_reducible apply Hp.set) | (with_reducible apply Hp.drew) | (with_reducible apply Hp.drewN) | (with_reducible apply Hp.bytesW) | (with_reducible exact Upd.here) | (with_reducible exact Upd.hereR) | (with_reducible apply Upd.there) | (with_reducible apply Sz.alloc) | (with_reducible apply Sz.set) | (with_reducible apply Sz.drew) | (with_reducible apply Sz.drewN) | (with_reducible apply Sz.bytesW) | (with_reducible assumption) | (with_reducible exact Sz.base _))) hb1; (try simp only [List.set_cons_zero, List.set_cons_succ, List.cons_append, List.nil_append] at H); clear hb1; clear F; have F := H.facts; simp only [Facts, NeF, box, row, reg, cellsF, rStr, ne_eq, true_and, and_true, Nat.reduceAdd, Nat.zero_add] at F
        rw [HX.out]
        generalize f x = y at *
        generalize (List.range x).map f = ts at *
        go_wp2_with (at_builtin; refine wpList_append_lies _ (by rfl) _ _ 29 (by rfl) w.heap.size 9 i1 _ 1 _ Tryd.underlying29 hi1 hy0 hy1 hy2 (by rfl) (by decide) (.slice A' (ts.length) c') (ts.length) _ (by rfl) (Hp.rowM (by repeat (first | (with_reducible exact H) | (with_reducible apply Hp.alloc) | (with_reducible apply Hp.set) | (with_reducible apply Hp.drew) | (with_reducible apply Hp.drewN) | (with_reducible apply Hp.bytesW) | (with_reducible exact Upd.here) | (with_reducible exact Upd.hereR) | (with_reducible apply Upd.there) | (with_reducible apply Sz.alloc) | (with_reducible apply Sz.set) | (with_reducible apply Sz.drew) | (with_reducible apply Sz.drewN) | (with_reducible apply Sz.bytesW) | (with_reducible assumption) | (with_reducible exact Sz.base _))) (by repeat (first | (with_reducible exact List.mem_cons_self) | (with_reducible apply List.mem_cons_of_mem)))) ⟨w1.heap.size, 0, none⟩ 1 1 (encStr y) (by rfl) (by rfl) (Hp.news (by repeat (first | (with_reducible exact H) | (with_reducible apply Hp.alloc) | (with_reducible apply Hp.set) | (with_reducible apply Hp.drew) | (with_reducible apply Hp.drewN) | (with_reducible apply Hp.bytesW) | (with_reducible exact Upd.here) | (with_reducible exact Upd.hereR) | (with_reducible apply Upd.there) | (with_reducible apply Sz.alloc) | (with_reducible apply Sz.set) | (with_reducible apply Sz.drew) | (with_reducible apply Sz.drewN) | (with_reducible apply Sz.bytesW) | (with_reducible assumption) | (with_reducible exact Sz.base _))) 0 (by rfl)) (oneStr y) (by decide) hl (by omega) (Hp.b (by repeat (first | (with_reducible exact H) | (with_reducible apply Hp.alloc) | (with_reducible apply Hp.set) | (with_reducible apply Hp.drew) | (with_reducible apply Hp.drewN) | (with_reducible apply Hp.bytesW) | (with_reducible exact Upd.here) | (with_reducible exact Upd.hereR) | (with_reducible apply Upd.there) | (with_reducible apply Sz.alloc) | (with_reducible apply Sz.set) | (with_reducible apply Sz.drew) | (with_reducible apply Sz.drewN) | (with_reducible apply Sz.bytesW) | (with_reducible assumption) | (with_reducible exact Sz.base _)))).size _ rfl ?_; intro g cap wa hown hgrow hat hlt1; have H5 := Hp.appM (by repeat (first | (with_reducible exact H) | (with_reducible apply Hp.alloc) | (with_reducible apply Hp.set) | (with_reducible apply Hp.drew) | (with_reducible apply Hp.drewN) | (with_reducible apply Hp.bytesW) | (with_reducible exact Upd.here) | (with_reducible exact Upd.hereR) | (with_reducible apply Upd.there) | (with_reducible apply Sz.alloc) | (with_reducible apply Sz.set) | (with_reducible apply Sz.drew) | (with_reducible apply Sz.drewN) | (with_reducible apply Sz.bytesW) | (with_reducible assumption) | (with_reducible exact Sz.base _))) (by repeat (first | (with_reducible exact Rep.here) | (with_reducible apply Rep.there))) hown hgrow hat rfl hlt1; (try simp only [List.set_cons_zero, List.set_cons_succ, List.cons_append, List.nil_append] at H5); have FA := H5.facts; simp only [Facts, NeF, box, row, reg, cellsF, rStr, ne_eq, true_and, and_true, Nat.reduceAdd, Nat.zero_add] at FA)
        rw [rStr_snoc] at H5
        go_roundw
        case rel => exact ⟨x + 1, by omega, by go_num, some ⟨g, 0, none⟩, cap, by rw [HT.out]; simp, by rw [HT.out]; exact Lib.hid (by refine Hp.sel (by repeat (first | (with_reducible exact H5) | (with_reducible apply Hp.alloc) | (with_reducible apply Hp.set) | (with_reducible apply Hp.drew) | (with_reducible apply Hp.drewN) | (with_reducible apply Hp.bytesW) | (with_reducible exact Upd.here) | (with_reducible exact Upd.hereR) | (with_reducible apply Upd.there) | (with_reducible apply Sz.alloc) | (with_reducible apply Sz.set) | (with_reducible apply Sz.drew) | (with_reducible apply Sz.drewN) | (with_reducible apply Sz.bytesW) | (with_reducible assumption) | (with_reducible exact Sz.base _))) ?_; (try simp only [List.set_cons_zero, List.set_cons_succ]); exact (by repeat (first | (with_reducible exact Sel.nil) | (with_reducible apply Sel.cons) | (with_reducible exact Del.here) | (with_reducible apply Del.there))))⟩
        case measure => simp [intOf]; omega
      · obtain rfl : x = nn := by omega
        go_wp2_with fail
        go_ret
        exact ⟨A', c', rfl, H⟩
  · clear hv
    go_enter Tryd.func18, Tryd.ntmps18
    go_wp2_with (first | (go_at_call 67; refine (l04Key_any _ _).mono ?_; rintro e w' ⟨rfl, rfl⟩) | (go_at_call 64; refine (l01In_any _ _ _ _).mono ?_; rintro e w' ⟨rfl, rfl⟩))
    go_loopw [7, 8] (fun v i wr => ∃ x : Nat, x ≤ nn ∧ i = .int .i64 x ∧ ∃ A' c', v = .slice A' ((List.range x).map f).length c' ∧ Hid (Hp w wr [rStr A' c' ((List.range x).map f)])) (fun _ i _ => nn - (intOf i).toNat)
    case atStart => exact ⟨0, Nat.zero_le _, rfl, some ⟨w.heap.size, 0, none⟩, 0, rfl, Lib.hid (Hp.give (Hp.boxRow (by repeat (first | (with_reducible exact H) | (with_reducible apply Hp.alloc) | (with_reducible apply Hp.set) | (with_reducible apply Hp.drew) | (with_reducible apply Hp.drewN) | (with_reducible apply Hp.bytesW) | (with_reducible exact Upd.here) | (with_reducible exact Upd.hereR) | (with_reducible apply Upd.there) | (with_reducible apply Sz.alloc) | (with_reducible apply Sz.set) | (with_reducible apply Sz.drew) | (with_reducible apply Sz.drewN) | (with_reducible apply Sz.bytesW) | (with_reducible assumption) | (with_reducible exact Sz.base _))) 0 1 0 0 (by rfl) (by rfl) (Nat.le_refl _) (Nat.zero_le _)) [0] (by decide) (by rfl))⟩
    case round =>
      clear H
      obtain ⟨x, hx, rfl, A', c', rfl, HP⟩ := hrel
      have H := HP.out
      have F := H.facts; simp only [Facts, NeF, box, row, reg, cellsF, rStr, ne_eq, true_and, and_true, Nat.reduceAdd, Nat.zero_add] at F
      by_cases hlt : x < nn
      · exfalso; omega
      · obtain rfl : x = nn := by omega
        go_wp2_with fail
        go_ret
        exact ⟨A', c', rfl, H⟩
set_option maxHeartbeats 4000000 in
set_option maxRecDepth 10000 in
theorem implCodesFrom_any (k c n : Int) (w : World) (ht : tabOk w) :
    Calls Tryd.prog 19 #[.int .i64 k, .int .i64 c, .int .i64 n] w fun e w' => ∃ A' c', e = .returned (.slice A' (codesFrom k c n).length c') ∧ Hp w w' [rStr A' c' (codesFrom k c n)] := by
  have H := Hp.nil w
  cases hk : inR k 0 1099511627776 with
  | false =>
    have HR : Hid (codesFrom k c n = []) := by show _ = _; rw [codesFrom, if_neg (by rw [hk]; simp)]
    go_enter Tryd.func19, Tryd.ntmps19
    go_wp2_with (first | (go_at_call 68; refine (isKey_any _ _).mono ?_; rintro e w' ⟨rfl, rfl⟩) | (go_at_call 69; refine (within_any _ _ _ _).mono ?_; rintro e w' ⟨rfl, rfl⟩))
    go_ret
    rw [HR.out]
    exact ⟨none, 0, rfl, Hp.give (Hp.cons_nilRow (by repeat (first | (with_reducible exact H) | (with_reducible apply Hp.alloc) | (with_reducible apply Hp.set) | (with_reducible apply Hp.drew) | (with_reducible apply Hp.drewN) | (with_reducible apply Hp.bytesW) | (with_reducible exact Upd.here) | (with_reducible exact Upd.hereR) | (with_reducible apply Upd.there) | (with_reducible apply Sz.alloc) | (with_reducible apply Sz.set) | (with_reducible apply Sz.drew) | (with_reducible apply Sz.drewN) | (with_reducible apply Sz.bytesW) | (with_reducible assumption) | (with_reducible exact Sz.base _))) 9 1) [0] (by decide) (by rfl)⟩
  | true =>
  cases hn : inR n 0 200 with
  | false =>
    have HR : Hid (codesFrom k c n = []) := by show _ = _; rw [codesFrom, if_neg (by rw [hn]; simp)]
    go_enter Tryd.func19, Tryd.ntmps19
    go_wp2_with (first | (go_at_call 68; refine (isKey_any _ _).mono ?_; rintro e w' ⟨rfl, rfl⟩) | (go_at_call 69; refine (within_any _ _ _ _).mono ?_; rintro e w' ⟨rfl, rfl⟩))
    go_ret
    rw [HR.out]
    exact ⟨none, 0, rfl, Hp.give (Hp.cons_nilRow (by repeat (first | (with_reducible exact H) | (with_reducible apply Hp.alloc) | (with_reducible apply Hp.set) | (with_reducible apply Hp.drew) | (with_reducible apply Hp.drewN) | (with_reducible apply Hp.bytesW) | (with_reducible exact Upd.here) | (with_reducible exact Upd.hereR) | (with_reducible apply Upd.there) | (with_reducible apply Sz.alloc) | (with_reducible apply Sz.set) | (with_reducible apply Sz.drew) | (with_reducible apply Sz.drewN) | (with_reducible apply Sz.bytesW) | (with_reducible assumption) | (with_reducible exact Sz.base _))) 9 1) [0] (by decide) (by rfl)⟩
  | true =>
  have hk2 := inR_true.1 hk
  have hn2 := inR_true.1 hn
  by_cases hp : 0 < n ∧ ¬ (0 ≤ c ∧ c + n - 1 ≤ 1000000000)
  · have HR : Hid (codesFrom k c n = []) := by show _ = _; rw [codesFrom, if_neg (by rintro ⟨_, _, h3⟩; exact hp.2 (h3 hp.1))]
    obtain ⟨hp1, hp2⟩ := hp
    cases hc2 : inR c 0 1000000000 with
    | false =>
      clear hp2
      go_enter Tryd.func19, Tryd.ntmps19
      go_wp2_with (first | (go_at_call 68; refine (isKey_any _ _).mono ?_; rintro e w' ⟨rfl, rfl⟩) | (go_at_call 69; refine (within_any _ _ _ _).mono ?_; rintro e w' ⟨rfl, rfl⟩))
      go_ret
      rw [HR.out]
      exact ⟨none, 0, rfl, Hp.give (Hp.cons_nilRow (by repeat (first | (with_reducible exact H) | (with_reducible apply Hp.alloc) | (with_reducible apply Hp.set) | (with_reducible apply Hp.drew) | (with_reducible apply Hp.drewN) | (with_reducible apply Hp.bytesW) | (with_reducible exact Upd.here) | (with_reducible exact Upd.hereR) | (with_reducible apply Upd.there) | (with_reducible apply Sz.alloc) | (with_reducible apply Sz.set) | (with_reducible apply Sz.drew) | (with_reducible apply Sz.drewN) | (with_reducible apply Sz.bytesW) | (with_reducible assumption) | (with_reducible exact Sz.base _))) 9 1) [0] (by decide) (by rfl)⟩
    | true =>
      have hc3 := inR_true.1 hc2
      have hc4 : 1000000000 < c + n - 1 := by omega
      clear hp2
      go_enter Tryd.func19, Tryd.ntmps19
      go_wp2_with (first | (go_at_call 68; refine (isKey_any _ _).mono ?_; rintro e w' ⟨rfl, rfl⟩) | (go_at_call 69; refine (within_any _ _ _ _).mono ?_; rintro e w' ⟨rfl, rfl⟩))
      go_ret
      rw [HR.out]
      exact ⟨none, 0, rfl, Hp.give (Hp.cons_nilRow (by repeat (first | (with_reducible exact H) | (with_reducible apply Hp.alloc) | (with_reducible apply Hp.set) | (with_reducible apply Hp.drew) | (with_reducible apply Hp.drewN) | (with_reducible apply Hp.bytesW) | (with_reducible exact Upd.here) | (with_reducible exact Upd.hereR) | (with_reducible apply Upd.there) | (with_reducible apply Sz.alloc) | (with_reducible apply Sz.set) | (with_reducible apply Sz.drew) | (with_reducible apply Sz.drewN) | (with_reducible apply Sz.bytesW) | (with_reducible assumption) | (with_reducible exact Sz.base _))) 9 1) [0] (by decide) (by rfl)⟩
  have hv : 0 < n → 0 ≤ c ∧ c + n - 1 ≤ 1000000000 := fun h => Classical.byContradiction fun h2 => hp ⟨h, h2⟩
  clear hp
  obtain ⟨nn, rfl⟩ := Int.eq_ofNat_of_zero_le hn2.1
  obtain ⟨f, hf⟩ : ∃ f : Nat → ByteArray, f = fun i => codeT k.toNat (c.toNat + i) := ⟨_, rfl⟩
  have HR : Hid (codesFrom k c nn = (List.range nn).map f) := by show _ = _; rw [codesFrom, if_pos ⟨hk, hn, hv⟩, hf]; rfl
  have HF := Lib.hid hf; clear hf
  rw [HR.out]
  have HV := Lib.hid hv
  obtain ⟨i1, hi1, hy0, hy1, hy2⟩ := info_parts Tryd.infoStr
  have hn3 : nn ≤ 200 := by omega
  by_cases h0 : (0 : Int) < nn
  · have hv2 := hv h0
    have hc2 : inR c 0 1000000000 = true := by rw [inR_true]; omega
    have hc4 : c + (nn : Int) - 1 ≤ 1000000000 := by omega
    clear hv
    obtain ⟨hv3, hv4⟩ := hv2
    go_enter Tryd.func19, Tryd.ntmps19
    go_wp2_with (first | (go_at_call 68; refine (isKey_any _ _).mono ?_; rintro e w' ⟨rfl, rfl⟩) | (go_at_call 69; refine (within_any _ _ _ _).mono ?_; rintro e w' ⟨rfl, rfl⟩))
    go_loopw [7, 32] (fun v i wr => ∃ x : Nat, x ≤ nn ∧ i = .int .i64 x ∧ ∃ A' c', v = .slice A' ((List.range x).map f).length c' ∧ Hid (Hp w wr [rStr A' c' ((List.range x).map f)])) (fun _ i _ => nn - (intOf i).toNat)
    case atStart => exact ⟨0, Nat.zero_le _, rfl, none, 0, rfl, Lib.hid (Hp.give (Hp.cons_nilRow (by repeat (first | (with_reducible exact H) | (with_reducible apply Hp.alloc) | (with_reducible apply Hp.set) | (with_reducible apply Hp.drew) | (with_reducible apply Hp.drewN) | (with_reducible apply Hp.bytesW) | (with_reducible exact Upd.here) | (with_reducible exact Upd.hereR) | (with_reducible apply Upd.there) | (with_reducible apply Sz.alloc) | (with_reducible apply Sz.set) | (with_reducible apply Sz.drew) | (with_reducible apply Sz.drewN) | (with_reducible apply Sz.bytesW) | (with_reducible assumption) | (with_reducible exact Sz.base _))) 9 1) [0] (by decide) (by rfl))⟩
    case round =>
      clear H
      obtain ⟨x, hx, rfl, A', c', rfl, HP⟩ := hrel
      have H := HP.out
      have F := H.facts; simp only [Facts, NeF, box, row, reg, cellsF, rStr, ne_eq, true_and, and_true, Nat.reduceAdd, Nat.zero_add] at F
      by_cases hlt : x < nn
      · have hx1 : (x : Int) < (nn : Int) := by omega
        have hv2 := HV.out (by omega)
        have HT : Hid ((List.range (x + 1)).map f = (List.range x).map f ++ [f x]) := by show _ = _; rw [List.range_succ, List.map_append]; rfl
        have hlen : ((List.range x).map f).length = x := by simp
        have HL := Lib.hid hlen
        have hl : ((List.range x).map f).length + 1 ≤ maxLen := by unfold maxLen; omega
        have hl2 : ((List.range x).map f).length + 1 ≤ 1000 := by omega
        have HX : Hid (codeT k.toNat (c + x).toNat = f x) := by show _ = _; rw [HF.out]; show codeT _ _ = codeT _ _; rw [show (c + (x : Int)).toNat = c.toNat + x by omega]
        clear hlen HP
        go_wp2_with fail
        refine (codeAt_i k (c + x) _ (by omega) (by omega) (ht.on (Hp.b (by repeat (first | (with_reducible exact H) | (with_reducible apply Hp.alloc) | (with_reducible apply Hp.set) | (with_reducible apply Hp.drew) | (with_reducible apply Hp.drewN) | (with_reducible apply Hp.bytesW) | (with_reducible exact Upd.here) | (with_reducible exact Upd.hereR) | (with_reducible apply Upd.there) | (with_reducible apply Sz.alloc) | (with_reducible apply Sz.set) | (with_reducible apply Sz.drew) | (with_reducible apply Sz.drewN) | (with_reducible apply Sz.bytesW) | (with_reducible assumption) | (with_reducible exact Sz.base _)))))).mono ?_
        rintro e w1 ⟨rfl, hb1⟩
        replace H := Hp.step (by repeat (first | (with_reducible exact H) | (with_reducible apply Hp.alloc) | (with_reducible apply Hp.set) | (with_reducible apply Hp.drew) | (with_reducible apply Hp.drewN) | (with_reducible apply Hp.bytesW) | (with_reducible exact Upd.here) | (with_reducible exact Upd.hereR) | (with_reducible apply Upd.there) | (with_reducible apply Sz.alloc) | (with_reducible apply Sz.set) | (with_reducible apply Sz.drew) | (with_reducible apply Sz.drewN) | (with_reducible apply Sz.bytesW) | (with_reducible assumption) | (with_reducible exact Sz.base _))) hb1; (try simp only [List.set_cons_zero, List.set_cons_succ, List.cons_append, List.nil_append] at H); clear hb1; clear F; have F := H.facts; simp only [Facts, NeF, box, row, reg, cellsF, rStr, ne_eq, true_and, and_true, Nat.reduceAdd, Nat.zero_add] at F
        rw [HX.out]
        generalize f x = y at *
        generalize (List.range x).map f = ts at *
        go_wp2_with (at_builtin; refine wpList_append_lies _ (by rfl) _ _ 29 (by rfl) w.heap.size 9 i1 _ 1 _ Tryd.underlying29 hi1 hy0 hy1 hy2 (by rfl) (by decide) (.slice A' (ts.length) c') (ts.length) _ (by rfl) (Hp.rowM (by repeat (first | (with_reducible exact H) | (with_reducible apply Hp.alloc) | (with_reducible apply Hp.set) | (with_reducible apply Hp.drew) | (with_reducible apply Hp.drewN) | (with_reducible apply Hp.bytesW) | (with_reducible exact Upd.here) | (with_reducible exact Upd.hereR) | (with_reducible apply Upd.there) | (with_reducible apply Sz.alloc) | (with_reducible apply Sz.set) | (with_reducible apply Sz.drew) | (with_reducible apply Sz.drewN) | (with_reducible apply Sz.bytesW) | (with_reducible assumption) | (with_reducible exact Sz.base _))) (by repeat (first | (with_reducible exact List.mem_cons_self) | (with_reducible apply List.mem_cons_of_mem)))) ⟨w1.heap.size, 0, none⟩ 1 1 (encStr y) (by rfl) (by rfl) (Hp.news (by repeat (first | (with_reducible exact H) | (with_reducible apply Hp.alloc) | (with_reducible apply Hp.set) | (with_reducible apply Hp.drew) | (with_reducible apply Hp.drewN) | (with_reducible apply Hp.bytesW) | (with_reducible exact Upd.here) | (with_reducible exact Upd.hereR) | (with_reducible apply Upd.there) | (with_reducible apply Sz.alloc) | (with_reducible apply Sz.set) | (with_reducible apply Sz.drew) | (with_reducible apply Sz.drewN) | (with_reducible apply Sz.bytesW) | (with_reducible assumption) | (with_reducible exact Sz.base _))) 0 (by rfl)) (oneStr y) (by decide) hl (by omega) (Hp.b (by repeat (first | (with_reducible exact H) | (with_reducible apply Hp.alloc) | (with_reducible apply Hp.set) | (with_reducible apply Hp.drew) | (with_reducible apply Hp.drewN) | (with_reducible apply Hp.bytesW) | (with_reducible exact Upd.here) | (with_reducible exact Upd.hereR) | (with_reducible apply Upd.there) | (with_reducible apply Sz.alloc) | (with_reducible apply Sz.set) | (with_reducible apply Sz.drew) | (with_reducible apply Sz.drewN) | (with_reducible apply Sz.bytesW) | (with_reducible assumption) | (with_reducible exact Sz.base _)))).size _ rfl ?_; intro g cap wa hown hgrow hat hlt1; have H5 := Hp.appM (by repeat (first | (with_reducible exact H) | (with_reducible apply Hp.alloc) | (with_reducible apply Hp.set) | (with_reducible apply Hp.drew) | (with_reducible apply Hp.drewN) | (with_reducible apply Hp.bytesW) | (with_reducible exact Upd.here) | (with_reducible exact Upd.hereR) | (with_reducible apply Upd.there) | (with_reducible apply Sz.alloc) | (with_reducible apply Sz.set) | (with_reducible apply Sz.drew) | (with_reducible apply Sz.drewN) | (with_reducible apply Sz.bytesW) | (with_reducible assumption) | (with_reducible exact Sz.base _))) (by repeat (first | (with_reducible exact Rep.here) | (with_reducible apply Rep.there))) hown hgrow hat rfl hlt1; (try simp only [List.set_cons_zero, List.set_cons_succ, List.cons_append, List.nil_append] at H5); have FA := H5.facts; simp only [Facts, NeF, box, row, reg, cellsF, rStr, ne_eq, true_and, and_true, Nat.reduceAdd, Nat.zero_add] at FA)
        rw [rStr_snoc] at H5
        go_roundw
        case rel => exact ⟨x + 1, by omega, by go_num, some ⟨g, 0, none⟩, cap, by rw [HT.out]; simp, by rw [HT.out]; exact Lib.hid (by refine Hp.sel (by repeat (first | (with_reducible exact H5) | (with_reducible apply Hp.alloc) | (with_reducible apply Hp.set) | (with_reducible apply Hp.drew) | (with_reducible apply Hp.drewN) | (with_reducible apply Hp.bytesW) | (with_reducible exact Upd.here) | (with_reducible exact Upd.hereR) | (with_reducible apply Upd.there) | (with_reducible apply Sz.alloc) | (with_reducible apply Sz.set) | (with_reducible apply Sz.drew) | (with_reducible apply Sz.drewN) | (with_reducible apply Sz.bytesW) | (with_reducible assumption) | (with_reducible exact Sz.base _))) ?_; (try simp only [List.set_cons_zero, List.set_cons_succ]); exact (by repeat (first | (with_reducible exact Sel.nil) | (with_reducible apply Sel.cons) | (with_reducible exact Del.here) | (with_reducible apply Del.there))))⟩
        case measure => simp [intOf]; omega
      · obtain rfl : x = nn := by omega
        go_wp2_with fail
        go_ret
        exact ⟨A', c', rfl, H⟩
  · clear hv
    go_enter Tryd.func19, Tryd.ntmps19
    go_wp2_with (first | (go_at_call 68; refine (isKey_any _ _).mono ?_; rintro e w' ⟨rfl, rfl⟩) | (go_at_call 69; refine (within_any _ _ _ _).mono ?_; rintro e w' ⟨rfl, rfl⟩))
    go_loopw [7, 32] (fun v i wr => ∃ x : Nat, x ≤ nn ∧ i = .int .i64 x ∧ ∃ A' c', v = .slice A' ((List.range x).map f).length c' ∧ Hid (Hp w wr [rStr A' c' ((List.range x).map f)])) (fun _ i _ => nn - (intOf i).toNat)
    case atStart => exact ⟨0, Nat.zero_le _, rfl, none, 0, rfl, Lib.hid (Hp.give (Hp.cons_nilRow (by repeat (first | (with_reducible exact H) | (with_reducible apply Hp.alloc) | (with_reducible apply Hp.set) | (with_reducible apply Hp.drew) | (with_reducible apply Hp.drewN) | (with_reducible apply Hp.bytesW) | (with_reducible exact Upd.here) | (with_reducible exact Upd.hereR) | (with_reducible apply Upd.there) | (with_reducible apply Sz.alloc) | (with_reducible apply Sz.set) | (with_reducible apply Sz.drew) | (with_reducible apply Sz.drewN) | (with_reducible apply Sz.bytesW) | (with_reducible assumption) | (with_reducible exact Sz.base _))) 9 1) [0] (by decide) (by rfl))⟩
    case round =>
      clear H
      obtain ⟨x, hx, rfl, A', c', rfl, HP⟩ := hrel
      have H := HP.out
      have F := H.facts; simp only [Facts, NeF, box, row, reg, cellsF, rStr, ne_eq, true_and, and_true, Nat.reduceAdd, Nat.zero_add] at F
      by_cases hlt : x < nn
      · exfalso; omega
      · obtain rfl : x = nn := by omega
        go_wp2_with fail
        go_ret
        exact ⟨A', c', rfl, H⟩
end Go.Proofs.YtonbebacioocnaaDoor

/- Paths and globs in the program, and paths in the reference: the walks. No condition. -/
import Derived.Test.YtlmmeeeoljlgcaaDoorPathW
import Derived.Test.YtlmmeeeoljlgcaaDoorShelf
set_option linter.unusedVariables false
set_option linter.unusedSimpArgs false
namespace Go.Proofs.YtlmmeeeoljlgcaaDoor
open Go.RowKit
set_option linter.unusedVariables false
set_option linter.unusedSimpArgs false
theorem path_no {s : ByteArray} (h : globF s = false) : pathF s = false := by simp [pathF, h]
theorem path_yes {s : ByteArray} (h : globF s = true) : pathF s = allB freeCh s := by simp [pathF, h]
set_option maxHeartbeats 2000000 in
theorem PathOk_any (s : ByteArray) (w : World) (hs : s.size ≤ maxLen) :
    Calls Tryd.prog 45 #[.string s] w fun e w' => e = .returned (.bool (pathF s)) ∧ Below w.heap.size w w' := by
  have HS := hs
  unfold maxLen at hs
  have H := Hp.nil w
  cases hg : globF s with
  | false =>
    have HR : Hid (pathF s = false) := path_no hg
    go_enter Tryd.func45, Tryd.ntmps45
    go_wp2_with (go_at_call 73; refine (GlobOk_any _ _ HS).mono ?_; rintro e w1 ⟨rfl, hb1⟩; replace H := Hp.step (by repeat (first | (with_reducible exact H) | (with_reducible apply Hp.alloc) | (with_reducible apply Hp.set) | (with_reducible apply Hp.drew) | (with_reducible apply Hp.drewN) | (with_reducible apply Hp.bytesW) | (with_reducible exact Upd.here) | (with_reducible exact Upd.hereR) | (with_reducible apply Upd.there) | (with_reducible apply Sz.alloc) | (with_reducible apply Sz.set) | (with_reducible apply Sz.drew) | (with_reducible apply Sz.drewN) | (with_reducible apply Sz.bytesW) | (with_reducible assumption) | (with_reducible exact Sz.base _))) hb1; (try simp only [List.set_cons_zero, List.set_cons_succ, List.cons_append, List.nil_append] at H))
    go_ret
    exact ⟨by rw [HR.out]; rfl, Hp.b (by repeat (first | (with_reducible exact H) | (with_reducible apply Hp.alloc) | (with_reducible apply Hp.set) | (with_reducible apply Hp.drew) | (with_reducible apply Hp.drewN) | (with_reducible apply Hp.bytesW) | (with_reducible exact Upd.here) | (with_reducible exact Upd.hereR) | (with_reducible apply Upd.there) | (with_reducible apply Sz.alloc) | (with_reducible apply Sz.set) | (with_reducible apply Sz.drew) | (with_reducible apply Sz.drewN) | (with_reducible apply Sz.bytesW) | (with_reducible assumption) | (with_reducible exact Sz.base _)))⟩
  | true =>
  have HR : Hid (pathF s = allB freeCh s) := path_yes hg
  go_enter Tryd.func45, Tryd.ntmps45
  go_wp2_with (go_at_call 73; refine (GlobOk_any _ _ HS).mono ?_; rintro e w1 ⟨rfl, hb1⟩; replace H := Hp.step (by repeat (first | (with_reducible exact H) | (with_reducible apply Hp.alloc) | (with_reducible apply Hp.set) | (with_reducible apply Hp.drew) | (with_reducible apply Hp.drewN) | (with_reducible apply Hp.bytesW) | (with_reducible exact Upd.here) | (with_reducible exact Upd.hereR) | (with_reducible apply Upd.there) | (with_reducible apply Sz.alloc) | (with_reducible apply Sz.set) | (with_reducible apply Sz.drew) | (with_reducible apply Sz.drewN) | (with_reducible apply Sz.bytesW) | (with_reducible assumption) | (with_reducible exact Sz.base _))) hb1; (try simp only [List.set_cons_zero, List.set_cons_succ, List.cons_append, List.nil_append] at H))
  have HH := Lib.hid H
  clear H
  go_loop [3] (fun i => ∃ k : Nat, k ≤ s.size ∧ i = .int .i64 k ∧ Hid ((s.data.toList.take k).all freeCh = true)) (fun i => s.size - (intOf i).toNat)
  case atStart => exact ⟨0, Nat.zero_le _, rfl, rfl⟩
  case round =>
    obtain ⟨k, hk, rfl, HA⟩ := hrel
    by_cases hlt : k < s.size
    · have hT : ∀ c : UInt8, freeCh c = true ↔ (¬ (c.toNat : Int) = 43 ∧ ¬ (c.toNat : Int) = 42) := by intro c; simp [freeCh]; omega
      have HT := Lib.hid hT; clear hT
      by_cases h1 : (s[k].toNat : Int) = 43 <;> by_cases h2 : (s[k].toNat : Int) = 42 <;> (try (exfalso; omega)) <;> go_wp2
      all_goals first
        | (go_round; (case rel => exact ⟨k + 1, by omega, by go_num, allB_snoc freeCh hlt HA.out ((HT.out _).2 (by omega))⟩); (case measure => simp [intOf]; omega))
        | (go_ret; exact ⟨by rw [HR.out, allB_at freeCh hlt (by rw [← Bool.not_eq_true, HT.out]; omega)]; rfl, Hp.b (HH.out)⟩)
        | (exfalso; rename_i hx hw; rcases hx with hx | hx <;> (have := beq_iff_eq.1 hx; omega))
    · have HE : Hid (allB freeCh s = true) := allB_end freeCh hk hlt HA.out
      go_wp2
      go_ret
      exact ⟨by rw [HR.out, HE.out]; rfl, Hp.b (HH.out)⟩
/-- The library's own bound holds some number. -/
def mlOk (w : World) : Prop := ∃ m : Int, w.cell? ⟨0, 0, none⟩ = some (.int .i64 m)
theorem mlOk.on {w w' : World} (h : mlOk w) (hb : Below w.heap.size w w') : mlOk w' := by
  obtain ⟨m, hm⟩ := h
  exact ⟨m, (hb.cell (by have := World.block_lt_of_cell? w _ hm; simpa using this)).trans hm⟩
def segBytes : List UInt8 := [97, 98, 99, 100, 101, 102, 103, 104, 105, 106, 107, 108, 109, 110, 111, 112, 113, 114, 115, 116, 117, 118, 119, 120, 121, 122, 48, 49, 50, 51, 52, 53, 54, 55, 56, 57, 45]
theorem inSet_seg : ∀ b : UInt8, inSet segBytes b = segCh b := by
  have h : ∀ n : Fin 256, inSet segBytes (UInt8.ofNat n.val) = segCh (UInt8.ofNat n.val) := by decide +kernel
  intro b
  have := h ⟨b.toNat, b.toNat_lt⟩
  simpa using this
theorem onlyOf_seg (s : ByteArray) (w : World) (hs : s.size ≤ maxLen) :
    Calls Tryd.prog 83 #[.string s, .string ⟨#[97, 98, 99, 100, 101, 102, 103, 104, 105, 106, 107, 108, 109, 110, 111, 112, 113, 114, 115, 116, 117, 118, 119, 120, 121, 122, 48, 49, 50, 51, 52, 53, 54, 55, 56, 57, 45]⟩] w fun e w' => e = .returned (.bool (allB segCh s)) ∧ w = w' :=
  (onlyOf_any s _ w hs).mono fun e w' ⟨he, hw⟩ => ⟨by rw [he, ← allB_congr inSet_seg s]; rfl, hw⟩
theorem split_hp (s : ByteArray) (w : World) (hs : s.size ≤ 1048576) (hm : mlOk w) :
    Calls Tryd.prog 82 #[.string s, .string ⟨#[47]⟩] w fun e w' => ∃ A' c', e = .returned (.slice A' (segsC 47 s).length c') ∧ Hp w w' [rStr A' c' (segsC 47 s)] := by
  obtain ⟨m, hm⟩ := hm
  refine (Tryd.strings_Split s ⟨#[47]⟩ m w (by omega) hm (by decide)).mono ?_
  rintro e w' ⟨rfl, rfl⟩
  have hl : (segsC 47 s).length = Lib.countB s ⟨#[47]⟩ + 1 := Lib.splitB_all _ (by decide) 0 _ s rfl
  have hle := segsC_len 47 s
  have hx : (segsC 47 s).map Value.string = (segsC 47 s).flatMap encStr := by
    induction segsC 47 s with
    | nil => rfl
    | cons a l ih => simp only [List.map_cons, List.flatMap_cons, encStr, List.singleton_append, ih]
  have H := Hp.nil w
  have H1 : Hp w (w.alloc (.cells ((segsC 47 s).map Value.string).toArray 9)) (box w.heap.size 9 ((segsC 47 s).map Value.string) :: []) := Hp.alloc H (Sz.base w)
  refine ⟨some ⟨w.heap.size, 0, none⟩, (segsC 47 s).length, by rw [hl], ?_⟩
  have H2 := Hp.boxRow H1 0 1 (segsC 47 s).length (segsC 47 s).length rfl (by simp) (Nat.le_refl _) (by unfold maxLen; omega)
  refine Hp.give H2 [0] (by decide) ?_
  rw [hx]
  show [_] = [_]
  congr 1
  unfold rStr
  congr 1
  rw [List.take_of_length_le (by rw [flat_len encStr 1 encStr_len]; omega)]
set_option maxHeartbeats 4000000 in
set_option maxRecDepth 10000 in
theorem isGlob_any (s : ByteArray) (w : World) (hs : s.size ≤ maxLen) (hml : mlOk w) :
    Calls Tryd.prog 70 #[.string s] w fun e w' => e = .returned (.bool (globF s)) ∧ Below w.heap.size w w' := by
  unfold maxLen at hs
  have H := Hp.nil w
  by_cases hb : s.size ≤ 120
  case neg =>
    have HR : Hid (globF s = false) := glob_long hb
    have hb1 : (120 : Int) < (s.size : Int) := by omega
    go_enter Tryd.func70, Tryd.ntmps70
    go_wp2_with fail
    go_ret
    exact ⟨by rw [HR.out]; rfl, Hp.b (by repeat (first | (with_reducible exact H) | (with_reducible apply Hp.alloc) | (with_reducible apply Hp.set) | (with_reducible apply Hp.drew) | (with_reducible apply Hp.drewN) | (with_reducible apply Hp.bytesW) | (with_reducible exact Upd.here) | (with_reducible exact Upd.hereR) | (with_reducible apply Upd.there) | (with_reducible apply Sz.alloc) | (with_reducible apply Sz.set) | (with_reducible apply Sz.drew) | (with_reducible apply Sz.drewN) | (with_reducible apply Sz.bytesW) | (with_reducible assumption) | (with_reducible exact Sz.base _)))⟩
  have HR : Hid (globF s = globL (segsC 47 s)) := glob_short hb
  rw [HR.out]
  have hb1 : (s.size : Int) ≤ 120 := by omega
  go_enter Tryd.func70, Tryd.ntmps70
  go_wp2_with fail
  refine (split_hp s _ (by omega) hml).mono ?_
  rintro e w1 ⟨A', c', rfl, h1⟩
  replace H := Hp.call (by repeat (first | (with_reducible exact H) | (with_reducible apply Hp.alloc) | (with_reducible apply Hp.set) | (with_reducible apply Hp.drew) | (with_reducible apply Hp.drewN) | (with_reducible apply Hp.bytesW) | (with_reducible exact Upd.here) | (with_reducible exact Upd.hereR) | (with_reducible apply Upd.there) | (with_reducible apply Sz.alloc) | (with_reducible apply Sz.set) | (with_reducible apply Sz.drew) | (with_reducible apply Sz.drewN) | (with_reducible apply Sz.bytesW) | (with_reducible assumption) | (with_reducible exact Sz.base _))) h1; (try simp only [List.set_cons_zero, List.set_cons_succ, List.cons_append, List.nil_append] at H); clear h1
  have hpos := segsC_pos 47 s
  have hlen := segsC_len 47 s
  have hsz : ∀ p ∈ segsC 47 s, p.size ≤ 120 := fun p hp => Nat.le_trans (segsC_size hp) hb
  generalize hLs : segsC 47 s = Ls at *
  have HLs := Lib.hid hLs
  clear hLs
  obtain ⟨g, rfl⟩ : ∃ g, A' = some ⟨g, 0, none⟩ := by
    rcases (H.rowAt 0 rfl).2 with ⟨e1, e2⟩ | ⟨g, cap, cur, e1, _⟩
    · omega
    · injection e1 with e1 _ _; exact ⟨g, e1⟩
  have hcl : ∀ k (h : k < Ls.length), w1.cell? ⟨g, k, none⟩ = some (.string Ls[k]) := fun k hk => by
    have h1 := flat_get encStr 1 encStr_len Ls k 0 (by omega)
    rw [Nat.mul_one, Nat.add_zero, List.getElem?_eq_getElem hk] at h1
    have h2 := (H.rowAt 0 rfl).cells (g := g) rfl k (.string Ls[k]) (by rw [h1]; rfl)
    rwa [Addr.add_lit, Nat.zero_add] at h2
  have HCL := Lib.hid hcl
  clear hcl
  have HH := Lib.hid H
  obtain ⟨n, hn⟩ : ∃ n, Ls.length = n := ⟨_, rfl⟩
  have HN := Lib.hid hn
  rw [hn] at hpos hlen ⊢
  clear hn H
  go_wp2_with fail
  go_loop [13] (fun i => ∃ k : Nat, k ≤ n ∧ i = .int .i64 k ∧ Hid (okTo Ls k)) (fun i => n - (intOf i).toNat)
  case atStart => exact ⟨0, Nat.zero_le _, rfl, Lib.hid (okTo_zero Ls)⟩
  case round =>
    obtain ⟨k, hk, rfl, HO⟩ := hrel
    by_cases hlt : k < n
    · have hkL : k < Ls.length := by rw [HN.out]; exact hlt
      have c0 := HCL.out k hkL
      have hz := hsz _ (List.getElem_mem hkL)
      have hq : okSeg Ls.length k Ls[k] = ((inR Ls[k].size 1 16 && allB segCh Ls[k]) || ((Ls[k].toList == [43]) || ((Ls[k].toList == [42]) && decide (k + 1 = n)))) := by rw [okSeg, HN.out]; rfl
      have HY := fun h => okTo_succ HO.out hkL h
      have HZ := fun h => globL_no hkL h
      rw [hq] at HY HZ
      have HY' := Lib.hid HY; have HZ' := Lib.hid HZ
      clear HY HZ hq
      generalize Ls[k] = x at *
      have hk1 : (k : Int) < (n : Int) := by omega
      have hk0 : (0 : Int) ≤ (k : Int) := by omega
      have hzm : x.size ≤ maxLen := by unfold maxLen; omega
      cases h2 : (x.toList == [43]) with
      | true =>
        have h2p : x.toList = [43] := by simpa using h2
        go_wp2_with (first | (go_at_call 78; refine (within_any _ _ _ _).mono ?_; rintro e w' ⟨rfl, rfl⟩) | (go_at_call 83; refine (onlyOf_seg _ _ hzm).mono ?_; rintro e w' ⟨rfl, rfl⟩))
        go_round
        case rel => exact ⟨k + 1, by omega, by go_num, Lib.hid (HY'.out (by simp [*]))⟩
        case measure => simp [intOf]; omega
      | false =>
      have h2p : ¬ x.toList = [43] := by simpa using h2
      have h4b : ((k : Int) == (n : Int) - 1) = decide (k + 1 = n) := by
        by_cases h : k + 1 = n
        · rw [decide_eq_true h]; exact beq_iff_eq.2 (by omega)
        · rw [decide_eq_false h, beq_eq_false_iff_ne]; omega
      cases h3 : (x.toList == [42]) with
      | true =>
        have h3p : x.toList = [42] := by simpa using h3
        cases h5 : decide (k + 1 = n) with
        | true =>
          rw [h5] at h4b
          go_wp2_with (first | (go_at_call 78; refine (within_any _ _ _ _).mono ?_; rintro e w' ⟨rfl, rfl⟩) | (go_at_call 83; refine (onlyOf_seg _ _ hzm).mono ?_; rintro e w' ⟨rfl, rfl⟩))
          go_round
          case rel => exact ⟨k + 1, by omega, by go_num, Lib.hid (HY'.out (by simp [*]))⟩
          case measure => simp [intOf]; omega
        | false =>
          rw [h5] at h4b
          cases h1 : inR x.size 1 16 with
          | false =>
            go_wp2_with (first | (go_at_call 78; refine (within_any _ _ _ _).mono ?_; rintro e w' ⟨rfl, rfl⟩) | (go_at_call 83; refine (onlyOf_seg _ _ hzm).mono ?_; rintro e w' ⟨rfl, rfl⟩))
            go_ret
            exact ⟨by rw [HLs.out, HZ'.out (by simp [*])]; rfl, Hp.b (HH.out)⟩
          | true =>
          cases h6 : allB segCh x with
          | false =>
            go_wp2_with (first | (go_at_call 78; refine (within_any _ _ _ _).mono ?_; rintro e w' ⟨rfl, rfl⟩) | (go_at_call 83; refine (onlyOf_seg _ _ hzm).mono ?_; rintro e w' ⟨rfl, rfl⟩))
            go_ret
            exact ⟨by rw [HLs.out, HZ'.out (by simp [*])]; rfl, Hp.b (HH.out)⟩
          | true =>
            go_wp2_with (first | (go_at_call 78; refine (within_any _ _ _ _).mono ?_; rintro e w' ⟨rfl, rfl⟩) | (go_at_call 83; refine (onlyOf_seg _ _ hzm).mono ?_; rintro e w' ⟨rfl, rfl⟩))
            go_round
            case rel => exact ⟨k + 1, by omega, by go_num, Lib.hid (HY'.out (by simp [*]))⟩
            case measure => simp [intOf]; omega
      | false =>
        have h3p : ¬ x.toList = [42] := by simpa using h3
        cases h1 : inR x.size 1 16 with
        | false =>
          go_wp2_with (first | (go_at_call 78; refine (within_any _ _ _ _).mono ?_; rintro e w' ⟨rfl, rfl⟩) | (go_at_call 83; refine (onlyOf_seg _ _ hzm).mono ?_; rintro e w' ⟨rfl, rfl⟩))
          go_ret
          exact ⟨by rw [HLs.out, HZ'.out (by simp [*])]; rfl, Hp.b (HH.out)⟩
        | true =>
        cases h6 : allB segCh x with
        | false =>
          go_wp2_with (first | (go_at_call 78; refine (within_any _ _ _ _).mono ?_; rintro e w' ⟨rfl, rfl⟩) | (go_at_call 83; refine (onlyOf_seg _ _ hzm).mono ?_; rintro e w' ⟨rfl, rfl⟩))
          go_ret
          exact ⟨by rw [HLs.out, HZ'.out (by simp [*])]; rfl, Hp.b (HH.out)⟩
        | true =>
          go_wp2_with (first | (go_at_call 78; refine (within_any _ _ _ _).mono ?_; rintro e w' ⟨rfl, rfl⟩) | (go_at_call 83; refine (onlyOf_seg _ _ hzm).mono ?_; rintro e w' ⟨rfl, rfl⟩))
          go_round
          case rel => exact ⟨k + 1, by omega, by go_num, Lib.hid (HY'.out (by simp [*]))⟩
          case measure => simp [intOf]; omega
    · obtain rfl : k = n := by omega
      have HE : Hid (globL Ls = decide (k ≤ 8)) := by
        have h := HO.out
        rw [← HN.out] at h ⊢
        exact globL_end h
      go_wp2_with fail
      go_ret
      exact ⟨by rw [HLs.out, HE.out, show decide (k ≤ 8) = decide ((k : Int) ≤ 8) from decide_eq_decide.2 (by omega)]; rfl, Hp.b (HH.out)⟩
set_option maxHeartbeats 2000000 in
theorem isPath_any (s : ByteArray) (w : World) (hs : s.size ≤ maxLen) (hml : mlOk w) :
    Calls Tryd.prog 41 #[.string s] w fun e w' => e = .returned (.bool (pathF s)) ∧ Below w.heap.size w w' := by
  have H := Hp.nil w
  cases hg : globF s with
  | false =>
    have HR : Hid (pathF s = false) := path_no hg
    go_enter Tryd.func41, Tryd.ntmps41
    go_wp2_with (go_at_call 70; refine (isGlob_any _ _ hs hml).mono ?_; rintro e w1 ⟨rfl, hb1⟩; replace H := Hp.step (by repeat (first | (with_reducible exact H) | (with_reducible apply Hp.alloc) | (with_reducible apply Hp.set) | (with_reducible apply Hp.drew) | (with_reducible apply Hp.drewN) | (with_reducible apply Hp.bytesW) | (with_reducible exact Upd.here) | (with_reducible exact Upd.hereR) | (with_reducible apply Upd.there) | (with_reducible apply Sz.alloc) | (with_reducible apply Sz.set) | (with_reducible apply Sz.drew) | (with_reducible apply Sz.drewN) | (with_reducible apply Sz.bytesW) | (with_reducible assumption) | (with_reducible exact Sz.base _))) hb1; (try simp only [List.set_cons_zero, List.set_cons_succ, List.cons_append, List.nil_append] at H))
    go_ret
    exact ⟨by rw [HR.out]; rfl, Hp.b (by repeat (first | (with_reducible exact H) | (with_reducible apply Hp.alloc) | (with_reducible apply Hp.set) | (with_reducible apply Hp.drew) | (with_reducible apply Hp.drewN) | (with_reducible apply Hp.bytesW) | (with_reducible exact Upd.here) | (with_reducible exact Upd.hereR) | (with_reducible apply Upd.there) | (with_reducible apply Sz.alloc) | (with_reducible apply Sz.set) | (with_reducible apply Sz.drew) | (with_reducible apply Sz.drewN) | (with_reducible apply Sz.bytesW) | (with_reducible assumption) | (with_reducible exact Sz.base _)))⟩
  | true =>
  have HR : Hid (pathF s = allB freeCh s) := path_yes hg
  have h120 : s.size ≤ 120 := by simp [globF] at hg; exact hg.1
  have HA := Lib.hid (glob_ascii hg)
  have HC := Lib.hid (containsAny_free s)
  go_enter Tryd.func41, Tryd.ntmps41
  go_wp2_with (first | (go_at_call 70; refine (isGlob_any _ _ hs hml).mono ?_; rintro e w1 ⟨rfl, hb1⟩; replace H := Hp.step (by repeat (first | (with_reducible exact H) | (with_reducible apply Hp.alloc) | (with_reducible apply Hp.set) | (with_reducible apply Hp.drew) | (with_reducible apply Hp.drewN) | (with_reducible apply Hp.bytesW) | (with_reducible exact Upd.here) | (with_reducible exact Upd.hereR) | (with_reducible apply Upd.there) | (with_reducible apply Sz.alloc) | (with_reducible apply Sz.set) | (with_reducible apply Sz.drew) | (with_reducible apply Sz.drewN) | (with_reducible apply Sz.bytesW) | (with_reducible assumption) | (with_reducible exact Sz.base _))) hb1; (try simp only [List.set_cons_zero, List.set_cons_succ, List.cons_append, List.nil_append] at H)) | (go_at_call 71; refine (Tryd.strings_ContainsAny_laid _ ⟨#[43, 42]⟩ _ (by omega) (by decide) HA.out (by intro j b hj; rcases j with _ | _ | j <;> simp at hj <;> subst hj <;> decide)).mono ?_; rintro e w2 ⟨rfl, hb2⟩; replace H := Hp.step (by repeat (first | (with_reducible exact H) | (with_reducible apply Hp.alloc) | (with_reducible apply Hp.set) | (with_reducible apply Hp.drew) | (with_reducible apply Hp.drewN) | (with_reducible apply Hp.bytesW) | (with_reducible exact Upd.here) | (with_reducible exact Upd.hereR) | (with_reducible apply Upd.there) | (with_reducible apply Sz.alloc) | (with_reducible apply Sz.set) | (with_reducible apply Sz.drew) | (with_reducible apply Sz.drewN) | (with_reducible apply Sz.bytesW) | (with_reducible assumption) | (with_reducible exact Sz.base _))) hb2; (try simp only [List.set_cons_zero, List.set_cons_succ, List.cons_append, List.nil_append] at H)))
  go_ret
  exact ⟨by rw [HR.out, ← HC.out]; rfl, Hp.b (by repeat (first | (with_reducible exact H) | (with_reducible apply Hp.alloc) | (with_reducible apply Hp.set) | (with_reducible apply Hp.drew) | (with_reducible apply Hp.drewN) | (with_reducible apply Hp.bytesW) | (with_reducible exact Upd.here) | (with_reducible exact Upd.hereR) | (with_reducible apply Upd.there) | (with_reducible apply Sz.alloc) | (with_reducible apply Sz.set) | (with_reducible apply Sz.drew) | (with_reducible apply Sz.drewN) | (with_reducible apply Sz.bytesW) | (with_reducible assumption) | (with_reducible exact Sz.base _)))⟩
end Go.Proofs.YtlmmeeeoljlgcaaDoor

/- Paths and globs: the walks. No condition. -/
import Derived.Test.YtlmmeeeoljlgcaaDoorPathP
import Derived.Test.YtlmmeeeoljlgcaaDoorStr
import Derived.Test.YtlmmeeeoljlgcaaDoorEnStr
import Derived.Test.YtlmmeeeoljlgcaaDoorCore
import Derived.Deep.RegionWith
set_option linter.unusedVariables false
set_option linter.unusedSimpArgs false
namespace Go.Proofs.YtlmmeeeoljlgcaaDoor
open Go.RowKit
set_option linter.unusedVariables false
set_option linter.unusedSimpArgs false
set_option maxHeartbeats 1000000 in
theorem l01Segment_any (s : ByteArray) (w : World) (hs : s.size ≤ maxLen) :
    Calls Tryd.prog 87 #[.string s] w fun e w' => e = .returned (.bool (segF s)) ∧ w = w' := by
  unfold maxLen at hs
  cases hr : inR (s.size : Int) 1 16 with
  | false =>
    have HR : Hid (segF s = false) := by show _ = _; rw [segF, hr]; rfl
    go_enter Tryd.func87, Tryd.ntmps87
    go_wp2_with (go_at_call 77; refine (l01In_any _ _ _ _).mono ?_; rintro e w' ⟨rfl, rfl⟩)
    go_ret
    exact ⟨by rw [HR.out]; rfl, rfl⟩
  | true =>
  have HR : Hid (segF s = allB segCh s) := by show _ = _; rw [segF, hr]; rfl
  go_enter Tryd.func87, Tryd.ntmps87
  go_wp2_with (go_at_call 77; refine (l01In_any _ _ _ _).mono ?_; rintro e w' ⟨rfl, rfl⟩)
  go_loop [3] (fun i => ∃ k : Nat, k ≤ s.size ∧ i = .int .i64 k ∧ Hid ((s.data.toList.take k).all segCh = true)) (fun i => s.size - (intOf i).toNat)
  case atStart => exact ⟨0, Nat.zero_le _, rfl, rfl⟩
  case round =>
    obtain ⟨k, hk, rfl, HA⟩ := hrel
    by_cases hlt : k < s.size
    · have hT : ∀ c : UInt8, segCh c = true ↔ (((97 : Int) ≤ (c.toNat : Int) ∧ (c.toNat : Int) ≤ 122) ∨ ((48 : Int) ≤ (c.toNat : Int) ∧ (c.toNat : Int) ≤ 57)) ∨ (c.toNat : Int) = 45 := by intro c; simp [segCh, nameCh]; omega
      have HT := Lib.hid hT; clear hT
      by_cases h1 : (97 : Int) ≤ (s[k].toNat : Int) <;> by_cases h2 : (s[k].toNat : Int) ≤ 122 <;> by_cases h3 : (48 : Int) ≤ (s[k].toNat : Int) <;> by_cases h4 : (s[k].toNat : Int) ≤ 57 <;> by_cases h5 : (s[k].toNat : Int) = 45 <;> (try (exfalso; omega)) <;> go_wp2
      all_goals first
        | (go_round; (case rel => exact ⟨k + 1, by omega, by go_num, allB_snoc segCh hlt HA.out ((HT.out _).2 (by omega))⟩); (case measure => simp [intOf]; omega))
        | (go_ret; exact ⟨by rw [HR.out, allB_at segCh hlt (by rw [← Bool.not_eq_true, HT.out]; omega)]; rfl, rfl⟩)
    · have HE : Hid (allB segCh s = true) := allB_end segCh hk hlt HA.out
      go_wp2
      go_ret
      exact ⟨by rw [HR.out, HE.out]; rfl, rfl⟩
set_option maxHeartbeats 4000000 in
set_option maxRecDepth 10000 in
theorem l01Parts_hp (s : ByteArray) (c : UInt8) (w : World) (hs : s.size ≤ 1048576) :
    Calls Tryd.prog 86 #[.string s, .int .u8 c.toNat] w fun e w' => ∃ A' c', e = .returned (.slice A' (segsC c s).length c') ∧ Hp w w' [rStr A' c' (segsC c s)] := by
  obtain ⟨i1, hi1, hy0, hy1, hy2⟩ := info_parts Tryd.infoStr
  have H := Hp.nil w
  go_enter Tryd.func86, Tryd.ntmps86
  go_wp2_with fail
  go_loopw [5, 6, 7] (fun v at_ i wr => ∃ (k a : Nat) (out : List ByteArray), i = .int .i64 k ∧ at_ = .int .i64 a ∧ out.length ≤ k ∧ ((k ≤ s.size ∧ a ≤ k ∧ Hid (PartI s c out a k)) ∨ (k = s.size + 1 ∧ Hid (out = segsC c s))) ∧ ∃ A' c', v = .slice A' out.length c' ∧ Hid (Hp w wr [rStr A' c' out])) (fun _ _ i _ => s.size + 1 - (intOf i).toNat)
  case atStart => exact ⟨0, 0, [], rfl, rfl, by simp, .inl ⟨Nat.zero_le _, Nat.le_refl _, Lib.hid (part_start s c)⟩, some ⟨w.heap.size, 0, none⟩, 0, rfl, Lib.hid (Hp.give (Hp.boxRow (by repeat (first | (with_reducible exact H) | (with_reducible apply Hp.alloc) | (with_reducible apply Hp.set) | (with_reducible apply Hp.drew) | (with_reducible apply Hp.drewN) | (with_reducible apply Hp.bytesW) | (with_reducible exact Upd.here) | (with_reducible exact Upd.hereR) | (with_reducible apply Upd.there) | (with_reducible apply Sz.alloc) | (with_reducible apply Sz.set) | (with_reducible apply Sz.drew) | (with_reducible apply Sz.drewN) | (with_reducible apply Sz.bytesW) | (with_reducible assumption) | (with_reducible exact Sz.base _))) 0 1 0 0 (by rfl) (by rfl) (Nat.le_refl _) (Nat.zero_le _)) [0] (by decide) (by rfl))⟩
  case round =>
    clear H
    obtain ⟨k, a, out, rfl, rfl, hol, hst, A', c', rfl, HP⟩ := hrel
    have H := HP.out
    have F := H.facts; simp only [Facts, NeF, box, row, reg, cellsF, rStr, ne_eq, true_and, and_true, Nat.reduceAdd, Nat.zero_add] at F
    rcases hst with ⟨hk, ha, HI⟩ | ⟨rfl, HE⟩
    · have hk1 : (k : Int) ≤ (s.size : Int) := by omega
      have hk0 : (0 : Int) ≤ (k : Int) := by omega
      have ha0 : (0 : Int) ≤ (a : Int) ∧ (a : Int) ≤ (k : Int) := by omega
      have hl : out.length + 1 ≤ maxLen := by unfold maxLen; omega
      have hl2 : out.length + 1 ≤ 2097152 := by omega
      have HOL := Lib.hid hol
      by_cases hlt : k < s.size
      · have hk2 : ((k : Int) == (s.size : Int)) = false := by simp; omega
        have hk3 : (k : Int) < (s.size : Int) := by omega
        cases hc : ((s[k].toNat : Int) == (c.toNat : Int)) with
        | true =>
          have hc2 : s[k] = c := by have := beq_iff_eq.1 hc; exact UInt8.toNat_inj.1 (by omega)
          have HN := Lib.hid (part_hit HI.out hlt hc2)
          clear hc2 hol
          go_wp2_with (at_builtin; refine wpList_append_lies _ (by rfl) _ _ 83 (by rfl) w.heap.size 9 i1 _ 1 _ Tryd.underlying83 hi1 hy0 hy1 hy2 (by rfl) (by decide) (.slice A' (out.length) c') (out.length) _ (by rfl) (Hp.rowM (by repeat (first | (with_reducible exact H) | (with_reducible apply Hp.alloc) | (with_reducible apply Hp.set) | (with_reducible apply Hp.drew) | (with_reducible apply Hp.drewN) | (with_reducible apply Hp.bytesW) | (with_reducible exact Upd.here) | (with_reducible exact Upd.hereR) | (with_reducible apply Upd.there) | (with_reducible apply Sz.alloc) | (with_reducible apply Sz.set) | (with_reducible apply Sz.drew) | (with_reducible apply Sz.drewN) | (with_reducible apply Sz.bytesW) | (with_reducible assumption) | (with_reducible exact Sz.base _))) (by repeat (first | (with_reducible exact List.mem_cons_self) | (with_reducible apply List.mem_cons_of_mem)))) ⟨wr.heap.size, 0, none⟩ 1 1 (encStr (s.extract a k)) (by rfl) (by rfl) (Hp.news (by repeat (first | (with_reducible exact H) | (with_reducible apply Hp.alloc) | (with_reducible apply Hp.set) | (with_reducible apply Hp.drew) | (with_reducible apply Hp.drewN) | (with_reducible apply Hp.bytesW) | (with_reducible exact Upd.here) | (with_reducible exact Upd.hereR) | (with_reducible apply Upd.there) | (with_reducible apply Sz.alloc) | (with_reducible apply Sz.set) | (with_reducible apply Sz.drew) | (with_reducible apply Sz.drewN) | (with_reducible apply Sz.bytesW) | (with_reducible assumption) | (with_reducible exact Sz.base _))) 0 (by rfl)) (oneStr (s.extract a k)) (by decide) hl (by omega) (Hp.b (by repeat (first | (with_reducible exact H) | (with_reducible apply Hp.alloc) | (with_reducible apply Hp.set) | (with_reducible apply Hp.drew) | (with_reducible apply Hp.drewN) | (with_reducible apply Hp.bytesW) | (with_reducible exact Upd.here) | (with_reducible exact Upd.hereR) | (with_reducible apply Upd.there) | (with_reducible apply Sz.alloc) | (with_reducible apply Sz.set) | (with_reducible apply Sz.drew) | (with_reducible apply Sz.drewN) | (with_reducible apply Sz.bytesW) | (with_reducible assumption) | (with_reducible exact Sz.base _)))).size _ rfl ?_; intro g cap wa hown hgrow hat hlt1; have H5 := Hp.appM (by repeat (first | (with_reducible exact H) | (with_reducible apply Hp.alloc) | (with_reducible apply Hp.set) | (with_reducible apply Hp.drew) | (with_reducible apply Hp.drewN) | (with_reducible apply Hp.bytesW) | (with_reducible exact Upd.here) | (with_reducible exact Upd.hereR) | (with_reducible apply Upd.there) | (with_reducible apply Sz.alloc) | (with_reducible apply Sz.set) | (with_reducible apply Sz.drew) | (with_reducible apply Sz.drewN) | (with_reducible apply Sz.bytesW) | (with_reducible assumption) | (with_reducible exact Sz.base _))) (by repeat (first | (with_reducible exact Rep.here) | (with_reducible apply Rep.there))) hown hgrow hat rfl hlt1; (try simp only [List.set_cons_zero, List.set_cons_succ, List.cons_append, List.nil_append] at H5); have FA := H5.facts; simp only [Facts, NeF, box, row, reg, cellsF, rStr, ne_eq, true_and, and_true, Nat.reduceAdd, Nat.zero_add] at FA)
          rw [rStr_snoc] at H5
          go_roundw
          case rel => exact ⟨k + 1, k + 1, out ++ [s.extract a k], by go_num, by go_num, by have := HOL.out; simp; omega, .inl ⟨by omega, Nat.le_refl _, HN⟩, some ⟨g, 0, none⟩, cap, by simp, Lib.hid (by refine Hp.sel (by repeat (first | (with_reducible exact H5) | (with_reducible apply Hp.alloc) | (with_reducible apply Hp.set) | (with_reducible apply Hp.drew) | (with_reducible apply Hp.drewN) | (with_reducible apply Hp.bytesW) | (with_reducible exact Upd.here) | (with_reducible exact Upd.hereR) | (with_reducible apply Upd.there) | (with_reducible apply Sz.alloc) | (with_reducible apply Sz.set) | (with_reducible apply Sz.drew) | (with_reducible apply Sz.drewN) | (with_reducible apply Sz.bytesW) | (with_reducible assumption) | (with_reducible exact Sz.base _))) ?_; (try simp only [List.set_cons_zero, List.set_cons_succ]); exact (by repeat (first | (with_reducible exact Sel.nil) | (with_reducible apply Sel.cons) | (with_reducible exact Del.here) | (with_reducible apply Del.there))))⟩
          case measure => simp [intOf]; omega
        | false =>
          have hc2 : s[k] ≠ c := by intro h; rw [h] at hc; simp at hc
          have HN := Lib.hid (part_go HI.out ha hlt hc2)
          clear hc2
          go_wp2_with fail
          go_roundw
          case rel => exact ⟨k + 1, a, out, by go_num, rfl, by omega, .inl ⟨by omega, by omega, HN⟩, A', c', rfl, Lib.hid (by refine Hp.sel (by repeat (first | (with_reducible exact H) | (with_reducible apply Hp.alloc) | (with_reducible apply Hp.set) | (with_reducible apply Hp.drew) | (with_reducible apply Hp.drewN) | (with_reducible apply Hp.bytesW) | (with_reducible exact Upd.here) | (with_reducible exact Upd.hereR) | (with_reducible apply Upd.there) | (with_reducible apply Sz.alloc) | (with_reducible apply Sz.set) | (with_reducible apply Sz.drew) | (with_reducible apply Sz.drewN) | (with_reducible apply Sz.bytesW) | (with_reducible assumption) | (with_reducible exact Sz.base _))) ?_; (try simp only [List.set_cons_zero, List.set_cons_succ]); exact (by repeat (first | (with_reducible exact Sel.nil) | (with_reducible apply Sel.cons) | (with_reducible exact Del.here) | (with_reducible apply Del.there))))⟩
          case measure => simp [intOf]; omega
      · obtain rfl : k = s.size := by omega
        have HN := Lib.hid (part_end HI.out)
        clear hol
        go_wp2_with (at_builtin; refine wpList_append_lies _ (by rfl) _ _ 83 (by rfl) w.heap.size 9 i1 _ 1 _ Tryd.underlying83 hi1 hy0 hy1 hy2 (by rfl) (by decide) (.slice A' (out.length) c') (out.length) _ (by rfl) (Hp.rowM (by repeat (first | (with_reducible exact H) | (with_reducible apply Hp.alloc) | (with_reducible apply Hp.set) | (with_reducible apply Hp.drew) | (with_reducible apply Hp.drewN) | (with_reducible apply Hp.bytesW) | (with_reducible exact Upd.here) | (with_reducible exact Upd.hereR) | (with_reducible apply Upd.there) | (with_reducible apply Sz.alloc) | (with_reducible apply Sz.set) | (with_reducible apply Sz.drew) | (with_reducible apply Sz.drewN) | (with_reducible apply Sz.bytesW) | (with_reducible assumption) | (with_reducible exact Sz.base _))) (by repeat (first | (with_reducible exact List.mem_cons_self) | (with_reducible apply List.mem_cons_of_mem)))) ⟨wr.heap.size, 0, none⟩ 1 1 (encStr (s.extract a s.size)) (by rfl) (by rfl) (Hp.news (by repeat (first | (with_reducible exact H) | (with_reducible apply Hp.alloc) | (with_reducible apply Hp.set) | (with_reducible apply Hp.drew) | (with_reducible apply Hp.drewN) | (with_reducible apply Hp.bytesW) | (with_reducible exact Upd.here) | (with_reducible exact Upd.hereR) | (with_reducible apply Upd.there) | (with_reducible apply Sz.alloc) | (with_reducible apply Sz.set) | (with_reducible apply Sz.drew) | (with_reducible apply Sz.drewN) | (with_reducible apply Sz.bytesW) | (with_reducible assumption) | (with_reducible exact Sz.base _))) 0 (by rfl)) (oneStr (s.extract a s.size)) (by decide) hl (by omega) (Hp.b (by repeat (first | (with_reducible exact H) | (with_reducible apply Hp.alloc) | (with_reducible apply Hp.set) | (with_reducible apply Hp.drew) | (with_reducible apply Hp.drewN) | (with_reducible apply Hp.bytesW) | (with_reducible exact Upd.here) | (with_reducible exact Upd.hereR) | (with_reducible apply Upd.there) | (with_reducible apply Sz.alloc) | (with_reducible apply Sz.set) | (with_reducible apply Sz.drew) | (with_reducible apply Sz.drewN) | (with_reducible apply Sz.bytesW) | (with_reducible assumption) | (with_reducible exact Sz.base _)))).size _ rfl ?_; intro g cap wa hown hgrow hat hlt1; have H5 := Hp.appM (by repeat (first | (with_reducible exact H) | (with_reducible apply Hp.alloc) | (with_reducible apply Hp.set) | (with_reducible apply Hp.drew) | (with_reducible apply Hp.drewN) | (with_reducible apply Hp.bytesW) | (with_reducible exact Upd.here) | (with_reducible exact Upd.hereR) | (with_reducible apply Upd.there) | (with_reducible apply Sz.alloc) | (with_reducible apply Sz.set) | (with_reducible apply Sz.drew) | (with_reducible apply Sz.drewN) | (with_reducible apply Sz.bytesW) | (with_reducible assumption) | (with_reducible exact Sz.base _))) (by repeat (first | (with_reducible exact Rep.here) | (with_reducible apply Rep.there))) hown hgrow hat rfl hlt1; (try simp only [List.set_cons_zero, List.set_cons_succ, List.cons_append, List.nil_append] at H5); have FA := H5.facts; simp only [Facts, NeF, box, row, reg, cellsF, rStr, ne_eq, true_and, and_true, Nat.reduceAdd, Nat.zero_add] at FA)
        rw [rStr_snoc] at H5
        go_roundw
        case rel => exact ⟨s.size + 1, s.size + 1, out ++ [s.extract a s.size], by go_num, by go_num, by have := HOL.out; simp; omega, .inr ⟨rfl, HN⟩, some ⟨g, 0, none⟩, cap, by simp, Lib.hid (by refine Hp.sel (by repeat (first | (with_reducible exact H5) | (with_reducible apply Hp.alloc) | (with_reducible apply Hp.set) | (with_reducible apply Hp.drew) | (with_reducible apply Hp.drewN) | (with_reducible apply Hp.bytesW) | (with_reducible exact Upd.here) | (with_reducible exact Upd.hereR) | (with_reducible apply Upd.there) | (with_reducible apply Sz.alloc) | (with_reducible apply Sz.set) | (with_reducible apply Sz.drew) | (with_reducible apply Sz.drewN) | (with_reducible apply Sz.bytesW) | (with_reducible assumption) | (with_reducible exact Sz.base _))) ?_; (try simp only [List.set_cons_zero, List.set_cons_succ]); exact (by repeat (first | (with_reducible exact Sel.nil) | (with_reducible apply Sel.cons) | (with_reducible exact Del.here) | (with_reducible apply Del.there))))⟩
        case measure => simp [intOf] <;> omega
    · have hk1 : ¬ ((s.size + 1 : Nat) : Int) ≤ (s.size : Int) := by omega
      go_wp2_with fail
      go_ret
      rw [← HE.out]
      exact ⟨A', c', rfl, H⟩
theorem glob_long {s : ByteArray} (h : ¬ s.size ≤ 120) : globF s = false := by simp [globF, h]
theorem glob_short {s : ByteArray} (h : s.size ≤ 120) : globF s = globL (segsC 47 s) := by simp [globF, h]
set_option maxHeartbeats 4000000 in
set_option maxRecDepth 10000 in
theorem GlobOk_any (s : ByteArray) (w : World) (hs : s.size ≤ maxLen) :
    Calls Tryd.prog 73 #[.string s] w fun e w' => e = .returned (.bool (globF s)) ∧ Below w.heap.size w w' := by
  unfold maxLen at hs
  have H := Hp.nil w
  by_cases hb : s.size ≤ 120
  case neg =>
    have HR : Hid (globF s = false) := glob_long hb
    have hb1 : (120 : Int) < (s.size : Int) := by omega
    go_enter Tryd.func73, Tryd.ntmps73
    go_wp2_with fail
    go_ret
    exact ⟨by rw [HR.out]; rfl, Hp.b (by repeat (first | (with_reducible exact H) | (with_reducible apply Hp.alloc) | (with_reducible apply Hp.set) | (with_reducible apply Hp.drew) | (with_reducible apply Hp.drewN) | (with_reducible apply Hp.bytesW) | (with_reducible exact Upd.here) | (with_reducible exact Upd.hereR) | (with_reducible apply Upd.there) | (with_reducible apply Sz.alloc) | (with_reducible apply Sz.set) | (with_reducible apply Sz.drew) | (with_reducible apply Sz.drewN) | (with_reducible apply Sz.bytesW) | (with_reducible assumption) | (with_reducible exact Sz.base _)))⟩
  have HR : Hid (globF s = globL (segsC 47 s)) := glob_short hb
  rw [HR.out]
  have hb1 : (s.size : Int) ≤ 120 := by omega
  go_enter Tryd.func73, Tryd.ntmps73
  go_wp2_with fail
  refine (l01Parts_hp s 47 _ (by omega)).mono ?_
  rintro e w1 ⟨A', c', rfl, h1⟩
  replace H := Hp.call (by repeat (first | (with_reducible exact H) | (with_reducible apply Hp.alloc) | (with_reducible apply Hp.set) | (with_reducible apply Hp.drew) | (with_reducible apply Hp.drewN) | (with_reducible apply Hp.bytesW) | (with_reducible exact Upd.here) | (with_reducible exact Upd.hereR) | (with_reducible apply Upd.there) | (with_reducible apply Sz.alloc) | (with_reducible apply Sz.set) | (with_reducible apply Sz.drew) | (with_reducible apply Sz.drewN) | (with_reducible apply Sz.bytesW) | (with_reducible assumption) | (with_reducible exact Sz.base _))) h1; (try simp only [List.set_cons_zero, List.set_cons_succ, List.cons_append, List.nil_append] at H); clear h1
  have hpos := segsC_pos 47 s
  have hlen := segsC_len 47 s
  have hsz : ∀ p ∈ segsC 47 s, p.size ≤ 120 := fun p hp => Nat.le_trans (segsC_size hp) hb
  generalize hLs : segsC 47 s = Ls at *
  have HLs := Lib.hid hLs
  clear hLs
  obtain ⟨g, rfl⟩ : ∃ g, A' = some ⟨g, 0, none⟩ := by
    rcases (H.rowAt 0 rfl).2 with ⟨e1, e2⟩ | ⟨g, cap, cur, e1, _⟩
    · omega
    · injection e1 with e1 _ _; exact ⟨g, e1⟩
  have hcl : ∀ k (h : k < Ls.length), w1.cell? ⟨g, k, none⟩ = some (.string Ls[k]) := fun k hk => by
    have h1 := flat_get encStr 1 encStr_len Ls k 0 (by omega)
    rw [Nat.mul_one, Nat.add_zero, List.getElem?_eq_getElem hk] at h1
    have h2 := (H.rowAt 0 rfl).cells (g := g) rfl k (.string Ls[k]) (by rw [h1]; rfl)
    rwa [Addr.add_lit, Nat.zero_add] at h2
  have HCL := Lib.hid hcl
  clear hcl
  have HH := Lib.hid H
  obtain ⟨n, hn⟩ : ∃ n, Ls.length = n := ⟨_, rfl⟩
  have HN := Lib.hid hn
  rw [hn] at hpos hlen ⊢
  clear hn H
  go_wp2_with fail
  go_loop [4] (fun i => ∃ k : Nat, k ≤ n ∧ i = .int .i64 k ∧ Hid (okTo Ls k)) (fun i => n - (intOf i).toNat)
  case atStart => exact ⟨0, Nat.zero_le _, rfl, Lib.hid (okTo_zero Ls)⟩
  case round =>
    obtain ⟨k, hk, rfl, HO⟩ := hrel
    by_cases hlt : k < n
    · have hkL : k < Ls.length := by rw [HN.out]; exact hlt
      have c0 := HCL.out k hkL
      have hz := hsz _ (List.getElem_mem hkL)
      have hq : okSeg Ls.length k Ls[k] = (segF Ls[k] || ((Ls[k].toList == [43]) || ((Ls[k].toList == [42]) && decide (k + 1 = n)))) := by rw [okSeg, HN.out]
      have HY := fun h => okTo_succ HO.out hkL h
      have HZ := fun h => globL_no hkL h
      rw [hq] at HY HZ
      have HY' := Lib.hid HY; have HZ' := Lib.hid HZ
      clear HY HZ hq
      generalize Ls[k] = x at *
      have hk1 : (k : Int) < (n : Int) := by omega
      have hk0 : (0 : Int) ≤ (k : Int) := by omega
      have hzm : x.size ≤ maxLen := by unfold maxLen; omega
      cases h1 : segF x with
      | true =>
        go_wp2_with (go_at_call 87; refine (l01Segment_any _ _ hzm).mono ?_; rintro e w' ⟨rfl, rfl⟩)
        go_round
        case rel => exact ⟨k + 1, by omega, by go_num, Lib.hid (HY'.out (by rw [h1]; rfl))⟩
        case measure => simp [intOf]; omega
      | false =>
      cases h2 : (x.toList == [43]) with
      | true =>
        have h2p : x.toList = [43] := by simpa using h2
        go_wp2_with (go_at_call 87; refine (l01Segment_any _ _ hzm).mono ?_; rintro e w' ⟨rfl, rfl⟩)
        go_round
        case rel => exact ⟨k + 1, by omega, by go_num, Lib.hid (HY'.out (by rw [h1, h2]; rfl))⟩
        case measure => simp [intOf]; omega
      | false =>
      have h2p : ¬ x.toList = [43] := by simpa using h2
      cases h3 : (x.toList == [42]) with
      | false =>
        have h3p : ¬ x.toList = [42] := by simpa using h3
        go_wp2_with (go_at_call 87; refine (l01Segment_any _ _ hzm).mono ?_; rintro e w' ⟨rfl, rfl⟩)
        go_ret
        exact ⟨by rw [HLs.out, HZ'.out (by rw [h1, h2, h3]; rfl)]; rfl, Hp.b (HH.out)⟩
      | true =>
        have h3p : x.toList = [42] := by simpa using h3
        by_cases h4 : k + 1 = n
        · have h4b : ((k : Int) == (n : Int) - 1) = true := beq_iff_eq.2 (by omega)
          have h4d : decide (k + 1 = n) = true := by simpa using h4
          clear h4
          go_wp2_with (go_at_call 87; refine (l01Segment_any _ _ hzm).mono ?_; rintro e w' ⟨rfl, rfl⟩)
          go_round
          case rel => exact ⟨k + 1, by omega, by go_num, Lib.hid (HY'.out (by rw [h1, h2, h3, h4d]; rfl))⟩
          case measure => simp [intOf]; omega
        · have h4b : ((k : Int) == (n : Int) - 1) = false := by rw [beq_eq_false_iff_ne]; omega
          have h4d : decide (k + 1 = n) = false := by simpa using h4
          go_wp2_with (go_at_call 87; refine (l01Segment_any _ _ hzm).mono ?_; rintro e w' ⟨rfl, rfl⟩)
          go_ret
          exact ⟨by rw [HLs.out, HZ'.out (by rw [h1, h2, h3, h4d]; rfl)]; rfl, Hp.b (HH.out)⟩
    · obtain rfl : k = n := by omega
      have HE : Hid (globL Ls = decide (k ≤ 8)) := by
        have h := HO.out
        rw [← HN.out] at h ⊢
        exact globL_end h
      go_wp2_with fail
      go_ret
      exact ⟨by rw [HLs.out, HE.out, show decide (k ≤ 8) = decide ((k : Int) ≤ 8) from decide_eq_decide.2 (by omega)]; rfl, Hp.b (HH.out)⟩
end Go.Proofs.YtlmmeeeoljlgcaaDoor

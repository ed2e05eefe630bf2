/- Paths and globs: the walks. No condition. -/
import Derived.Test.YtklmcbabpncfmaaDoorM5
import Derived.Test.YtklmcbabpncfmaaDoorEnStr
import Derived.Test.YtklmcbabpncfmaaDoorCore
import Derived.Deep.RegionWith
import Derived.Test.YtklmcbabpncfmaaDoorShelf
namespace Go.Proofs.YtklmcbabpncfmaaDoor
open Go.RowKit
set_option linter.unusedVariables false
set_option linter.unusedSimpArgs false
set_option maxHeartbeats 1000000 in
theorem l01Segment_any (s : ByteArray) (w : World) (hs : s.size ≤ maxLen) :
    Calls Tryd.prog 86 #[.string s] w fun e w' => e = .returned (.bool (segF s)) ∧ w = w' := by
  unfold maxLen at hs
  cases hr : inR (s.size : Int) 1 16 with
  | false =>
    have HR : Hid (segF s = false) := by show _ = _; rw [segF, hr]; rfl
    go_enter Tryd.func86, Tryd.ntmps86
    go_wp2_with (go_at_call 37; refine (l01In_any _ _ _ _).mono ?_; rintro e w' ⟨rfl, rfl⟩)
    go_ret
    exact ⟨by rw [HR.out]; rfl, rfl⟩
  | true =>
  have HR : Hid (segF s = allB segCh s) := by show _ = _; rw [segF, hr]; rfl
  go_enter Tryd.func86, Tryd.ntmps86
  go_wp2_with (go_at_call 37; refine (l01In_any _ _ _ _).mono ?_; rintro e w' ⟨rfl, rfl⟩)
  go_loop [3] (fun i => ∃ k : Nat, k ≤ s.size ∧ i = .int .i64 k ∧ Hid ((s.data.toList.take k).all segCh = true)) (fun i => s.size - (intOf i).toNat)
  case atStart => exact ⟨0, Nat.zero_le _, rfl, rfl⟩
  case round =>
    obtain ⟨k, hk, rfl, HA⟩ := hrel
    by_cases hlt : k < s.size
    · have hT : ∀ c : UInt8, segCh c = true ↔ (((97 : Int) ≤ (c.toNat : Int) ∧ (c.toNat : Int) ≤ 122) ∨ ((48 : Int) ≤ (c.toNat : Int) ∧ (c.toNat : Int) ≤ 57)) ∨ (c.toNat : Int) = 45 := by intro c; simp [segCh, nameCh]; omega
      have HT := Lib.hid hT; clear hT
      by_cases h1 : (97 : Int) ≤ (s[k].toNat : Int) <;> by_cases h2 : (s[k].toNat : Int) ≤ 122 <;> by_cases h3 : (48 : Int) ≤ (s[k].toNat : Int) <;> by_cases h4 : (s[k].toNat : Int) ≤ 57 <;> by_cases h5 : (s[k].toNat : Int) = 45 <;> (try (exfalso; omega)) <;> go_wp2
      all_goals first
        | (go_round; (case rel => exact ⟨k + 1, by omega, by go_num, allB_snoc segCh hlt HA.out ((HT.out _).2 (by omega))⟩); (case measure => simp [intOf]; omega))
        | (go_ret; exact ⟨by rw [HR.out, allB_at segCh hlt (by rw [← Bool.not_eq_true, HT.out]; omega)]; rfl, rfl⟩)
    · have HE : Hid (allB segCh s = true) := allB_end segCh hk hlt HA.out
      go_wp2
      go_ret
      exact ⟨by rw [HR.out, HE.out]; rfl, rfl⟩
set_option maxHeartbeats 4000000 in
set_option maxRecDepth 10000 in
theorem l01Parts_hp (s : ByteArray) (c : UInt8) (w : World) (hs : s.size ≤ 1048576) :
    Calls Tryd.prog 51 #[.string s, .int .u8 c.toNat] w fun e w' => ∃ A' c', e = .returned (.slice A' (segsC c s).length c') ∧ Hp w w' [rStr A' c' (segsC c s)] := by
  obtain ⟨i1, hi1, hy0, hy1, hy2⟩ := info_parts Tryd.infoStr
  have H := Hp.nil w
  go_enter Tryd.func51, Tryd.ntmps51
  go_wp2_with fail
  go_loopw [5, 6, 7] (fun v at_ i wr => ∃ (k a : Nat) (out : List ByteArray), i = .int .i64 k ∧ at_ = .int .i64 a ∧ out.length ≤ k ∧ ((k ≤ s.size ∧ a ≤ k ∧ Hid (PartI s c out a k)) ∨ (k = s.size + 1 ∧ Hid (out = segsC c s))) ∧ ∃ A' c', v = .slice A' out.length c' ∧ Hid (Hp w wr [rStr A' c' out])) (fun _ _ i _ => s.size + 1 - (intOf i).toNat)
  case atStart => exact ⟨0, 0, [], rfl, rfl, by simp, .inl ⟨Nat.zero_le _, Nat.le_refl _, Lib.hid (part_start s c)⟩, some ⟨w.heap.size, 0, none⟩, 0, rfl, Lib.hid (Hp.give (Hp.boxRow (by repeat (first | (with_reducible exact H) | (with_reducible apply Hp.alloc) | (with_reducible apply Hp.set) | (with_reducible apply Hp.drew) | (with_reducible apply Hp.drewN) | (with_reducible apply Hp.bytesW) | (with_reducible exact Upd.here) | (with_reducible exact Upd.hereR) | (with_reducible apply Upd.there) | (with_reducible apply Sz.alloc) | (with_reducible apply Sz.set) | (with_reducible apply Sz.drew) | (with_reducible apply Sz.drewN) | (with_reducible apply Sz.bytesW) | (with_reducible assumption) | (with_reducible exact Sz.base _))) 0 1 0 0 (by rfl) (by rfl) (Nat.le_refl _) (Nat.zero_le _)) [0] (by decide) (by rfl))⟩
  case round =>
    clear H
    obtain ⟨k, a, out, rfl, rfl, hol, hst, A', c', rfl, HP⟩ := hrel
    have H := HP.out
    have F := H.facts; simp only [Facts, NeF, box, row, reg, cellsF, rStr, ne_eq, true_and, and_true, Nat.reduceAdd, Nat.zero_add] at F
    rcases hst with ⟨hk, ha, HI⟩ | ⟨rfl, HE⟩
    · have hk1 : (k : Int) ≤ (s.size : Int) := by omega
      have hk0 : (0 : Int) ≤ (k : Int) := by omega
      have ha0 : (0 : Int) ≤ (a : Int) ∧ (a : Int) ≤ (k : Int) := by omega
      have hl : out.length + 1 ≤ maxLen := by unfold maxLen; omega
      have hl2 : out.length + 1 ≤ 2097152 := by omega
      have HOL := Lib.hid hol
      by_cases hlt : k < s.size
      · have hk2 : ((k : Int) == (s.size : Int)) = false := by simp; omega
        have hk3 : (k : Int) < (s.size : Int) := by omega
        cases hc : ((s[k].toNat : Int) == (c.toNat : Int)) with
        | true =>
          have hc2 : s[k] = c := by have := beq_iff_eq.1 hc; exact UInt8.toNat_inj.1 (by omega)
          have HN := Lib.hid (part_hit HI.out hlt hc2)
          clear hc2 hol
          go_wp2_with (at_builtin; refine wpList_append_lies _ (by rfl) _ _ 40 (by rfl) w.heap.size 9 i1 _ 1 _ Tryd.underlying40 hi1 hy0 hy1 hy2 (by rfl) (by decide) (.slice A' (out.length) c') (out.length) _ (by rfl) (Hp.rowM (by repeat (first | (with_reducible exact H) | (with_reducible apply Hp.alloc) | (with_reducible apply Hp.set) | (with_reducible apply Hp.drew) | (with_reducible apply Hp.drewN) | (with_reducible apply Hp.bytesW) | (with_reducible exact Upd.here) | (with_reducible exact Upd.hereR) | (with_reducible apply Upd.there) | (with_reducible apply Sz.alloc) | (with_reducible apply Sz.set) | (with_reducible apply Sz.drew) | (with_reducible apply Sz.drewN) | (with_reducible apply Sz.bytesW) | (with_reducible assumption) | (with_reducible exact Sz.base _))) (by repeat (first | (with_reducible exact List.mem_cons_self) | (with_reducible apply List.mem_cons_of_mem)))) ⟨wr.heap.size, 0, none⟩ 1 1 (encStr (s.extract a k)) (by rfl) (by rfl) (Hp.news (by repeat (first | (with_reducible exact H) | (with_reducible apply Hp.alloc) | (with_reducible apply Hp.set) | (with_reducible apply Hp.drew) | (with_reducible apply Hp.drewN) | (with_reducible apply Hp.bytesW) | (with_reducible exact Upd.here) | (with_reducible exact Upd.hereR) | (with_reducible apply Upd.there) | (with_reducible apply Sz.alloc) | (with_reducible apply Sz.set) | (with_reducible apply Sz.drew) | (with_reducible apply Sz.drewN) | (with_reducible apply Sz.bytesW) | (with_reducible assumption) | (with_reducible exact Sz.base _))) 0 (by rfl)) (oneStr (s.extract a k)) (by decide) hl (by omega) (Hp.b (by repeat (first | (with_reducible exact H) | (with_reducible apply Hp.alloc) | (with_reducible apply Hp.set) | (with_reducible apply Hp.drew) | (with_reducible apply Hp.drewN) | (with_reducible apply Hp.bytesW) | (with_reducible exact Upd.here) | (with_reducible exact Upd.hereR) | (with_reducible apply Upd.there) | (with_reducible apply Sz.alloc) | (with_reducible apply Sz.set) | (with_reducible apply Sz.drew) | (with_reducible apply Sz.drewN) | (with_reducible apply Sz.bytesW) | (with_reducible assumption) | (with_reducible exact Sz.base _)))).size _ rfl ?_; intro g cap wa hown hgrow hat hlt1; have H5 := Hp.appM (by repeat (first | (with_reducible exact H) | (with_reducible apply Hp.alloc) | (with_reducible apply Hp.set) | (with_reducible apply Hp.drew) | (with_reducible apply Hp.drewN) | (with_reducible apply Hp.bytesW) | (with_reducible exact Upd.here) | (with_reducible exact Upd.hereR) | (with_reducible apply Upd.there) | (with_reducible apply Sz.alloc) | (with_reducible apply Sz.set) | (with_reducible apply Sz.drew) | (with_reducible apply Sz.drewN) | (with_reducible apply Sz.bytesW) | (with_reducible assumption) | (with_reducible exact Sz.base _))) (by repeat (first | (with_reducible exact Rep.here) | (with_reducible apply Rep.there))) hown hgrow hat rfl hlt1; (try simp only [List.set_cons_zero, List.set_cons_succ, List.cons_append, List.nil_append] at H5); have FA := H5.facts; simp only [Facts, NeF, box, row, reg, cellsF, rStr, ne_eq, true_and, and_true, Nat.reduceAdd, Nat.zero_add] at FA)
          rw [rStr_snoc] at H5
          go_roundw
          case rel => exact ⟨k + 1, k + 1, out ++ [s.extract a k], by go_num, by go_num, by have := HOL.out; simp; omega, .inl ⟨by omega, Nat.le_refl _, HN⟩, some ⟨g, 0, none⟩, cap, by simp, Lib.hid (by refine Hp.sel (by repeat (first | (with_reducible exact H5) | (with_reducible apply Hp.alloc) | (with_reducible apply Hp.set) | (with_reducible apply Hp.drew) | (with_reducible apply Hp.drewN) | (with_reducible apply Hp.bytesW) | (with_reducible exact Upd.here) | (with_reducible exact Upd.hereR) | (with_reducible apply Upd.there) | (with_reducible apply Sz.alloc) | (with_reducible apply Sz.set) | (with_reducible apply Sz.drew) | (with_reducible apply Sz.drewN) | (with_reducible apply Sz.bytesW) | (with_reducible assumption) | (with_reducible exact Sz.base _))) ?_; (try simp only [List.set_cons_zero, List.set_cons_succ]); exact (by repeat (first | (with_reducible exact Sel.nil) | (with_reducible apply Sel.cons) | (with_reducible exact Del.here) | (with_reducible apply Del.there))))⟩
          case measure => simp [intOf]; omega
        | false =>
          have hc2 : s[k] ≠ c := by intro h; rw [h] at hc; simp at hc
          have HN := Lib.hid (part_go HI.out ha hlt hc2)
          clear hc2
          go_wp2_with fail
          go_roundw
          case rel => exact ⟨k + 1, a, out, by go_num, rfl, by omega, .inl ⟨by omega, by omega, HN⟩, A', c', rfl, Lib.hid (by refine Hp.sel (by repeat (first | (with_reducible exact H) | (with_reducible apply Hp.alloc) | (with_reducible apply Hp.set) | (with_reducible apply Hp.drew) | (with_reducible apply Hp.drewN) | (with_reducible apply Hp.bytesW) | (with_reducible exact Upd.here) | (with_reducible exact Upd.hereR) | (with_reducible apply Upd.there) | (with_reducible apply Sz.alloc) | (with_reducible apply Sz.set) | (with_reducible apply Sz.drew) | (with_reducible apply Sz.drewN) | (with_reducible apply Sz.bytesW) | (with_reducible assumption) | (with_reducible exact Sz.base _))) ?_; (try simp only [List.set_cons_zero, List.set_cons_succ]); exact (by repeat (first | (with_reducible exact Sel.nil) | (with_reducible apply Sel.cons) | (with_reducible exact Del.here) | (with_reducible apply Del.there))))⟩
          case measure => simp [intOf]; omega
      · obtain rfl : k = s.size := by omega
        have HN := Lib.hid (part_end HI.out)
        clear hol
        go_wp2_with (at_builtin; refine wpList_append_lies _ (by rfl) _ _ 40 (by rfl) w.heap.size 9 i1 _ 1 _ Tryd.underlying40 hi1 hy0 hy1 hy2 (by rfl) (by decide) (.slice A' (out.length) c') (out.length) _ (by rfl) (Hp.rowM (by repeat (first | (with_reducible exact H) | (with_reducible apply Hp.alloc) | (with_reducible apply Hp.set) | (with_reducible apply Hp.drew) | (with_reducible apply Hp.drewN) | (with_reducible apply Hp.bytesW) | (with_reducible exact Upd.here) | (with_reducible exact Upd.hereR) | (with_reducible apply Upd.there) | (with_reducible apply Sz.alloc) | (with_reducible apply Sz.set) | (with_reducible apply Sz.drew) | (with_reducible apply Sz.drewN) | (with_reducible apply Sz.bytesW) | (with_reducible assumption) | (with_reducible exact Sz.base _))) (by repeat (first | (with_reducible exact List.mem_cons_self) | (with_reducible apply List.mem_cons_of_mem)))) ⟨wr.heap.size, 0, none⟩ 1 1 (encStr (s.extract a s.size)) (by rfl) (by rfl) (Hp.news (by repeat (first | (with_reducible exact H) | (with_reducible apply Hp.alloc) | (with_reducible apply Hp.set) | (with_reducible apply Hp.drew) | (with_reducible apply Hp.drewN) | (with_reducible apply Hp.bytesW) | (with_reducible exact Upd.here) | (with_reducible exact Upd.hereR) | (with_reducible apply Upd.there) | (with_reducible apply Sz.alloc) | (with_reducible apply Sz.set) | (with_reducible apply Sz.drew) | (with_reducible apply Sz.drewN) | (with_reducible apply Sz.bytesW) | (with_reducible assumption) | (with_reducible exact Sz.base _))) 0 (by rfl)) (oneStr (s.extract a s.size)) (by decide) hl (by omega) (Hp.b (by repeat (first | (with_reducible exact H) | (with_reducible apply Hp.alloc) | (with_reducible apply Hp.set) | (with_reducible apply Hp.drew) | (with_reducible apply Hp.drewN) | (with_reducible apply Hp.bytesW) | (with_reducible exact Upd.here) | (with_reducible exact Upd.hereR) | (with_reducible apply Upd.there) | (with_reducible apply Sz.alloc) | (with_reducible apply Sz.set) | (with_reducible apply Sz.drew) | (with_reducible apply Sz.drewN) | (with_reducible apply Sz.bytesW) | (with_reducible assumption) | (with_reducible exact Sz.base _)))).size _ rfl ?_; intro g cap wa hown hgrow hat hlt1; have H5 := Hp.appM (by repeat (first | (with_reducible exact H) | (with_reducible apply Hp.alloc) | (with_reducible apply Hp.set) | (with_reducible apply Hp.drew) | (with_reducible apply Hp.drewN) | (with_reducible apply Hp.bytesW) | (with_reducible exact Upd.here) | (with_reducible exact Upd.hereR) | (with_reducible apply Upd.there) | (with_reducible apply Sz.alloc) | (with_reducible apply Sz.set) | (with_reducible apply Sz.drew) | (with_reducible apply Sz.drewN) | (with_reducible apply Sz.bytesW) | (with_reducible assumption) | (with_reducible exact Sz.base _))) (by repeat (first | (with_reducible exact Rep.here) | (with_reducible apply Rep.there))) hown hgrow hat rfl hlt1; (try simp only [List.set_cons_zero, List.set_cons_succ, List.cons_append, List.nil_append] at H5); have FA := H5.facts; simp only [Facts, NeF, box, row, reg, cellsF, rStr, ne_eq, true_and, and_true, Nat.reduceAdd, Nat.zero_add] at FA)
        rw [rStr_snoc] at H5
        go_roundw
        case rel => exact ⟨s.size + 1, s.size + 1, out ++ [s.extract a s.size], by go_num, by go_num, by have := HOL.out; simp; omega, .inr ⟨rfl, HN⟩, some ⟨g, 0, none⟩, cap, by simp, Lib.hid (by refine Hp.sel (by repeat (first | (with_reducible exact H5) | (with_reducible apply Hp.alloc) | (with_reducible apply Hp.set) | (with_reducible apply Hp.drew) | (with_reducible apply Hp.drewN) | (with_reducible apply Hp.bytesW) | (with_reducible exact Upd.here) | (with_reducible exact Upd.hereR) | (with_reducible apply Upd.there) | (with_reducible apply Sz.alloc) | (with_reducible apply Sz.set) | (with_reducible apply Sz.drew) | (with_reducible apply Sz.drewN) | (with_reducible apply Sz.bytesW) | (with_reducible assumption) | (with_reducible exact Sz.base _))) ?_; (try simp only [List.set_cons_zero, List.set_cons_succ]); exact (by repeat (first | (with_reducible exact Sel.nil) | (with_reducible apply Sel.cons) | (with_reducible exact Del.here) | (with_reducible apply Del.there))))⟩
        case measure => simp [intOf] <;> omega
    · have hk1 : ¬ ((s.size + 1 : Nat) : Int) ≤ (s.size : Int) := by omega
      go_wp2_with fail
      go_ret
      rw [← HE.out]
      exact ⟨A', c', rfl, H⟩
theorem glob_long {s : ByteArray} (h : ¬ s.size ≤ 120) : globF s = false := by simp [globF, h]
theorem glob_short {s : ByteArray} (h : s.size ≤ 120) : globF s = globL (segsC 47 s) := by simp [globF, h]
set_option maxHeartbeats 4000000 in
set_option maxRecDepth 10000 in
theorem GlobOk_any (s : ByteArray) (w : World) (hs : s.size ≤ maxLen) :
    Calls Tryd.prog 65 #[.string s] w fun e w' => e = .returned (.bool (globF s)) ∧ Below w.heap.size w w' := by
  unfold maxLen at hs
  have H := Hp.nil w
  by_cases hb : s.size ≤ 120
  case neg =>
    have HR : Hid (globF s = false) := glob_long hb
    have hb1 : (120 : Int) < (s.size : Int) := by omega
    go_enter Tryd.func65, Tryd.ntmps65
    go_wp2_with fail
    go_ret
    exact ⟨by rw [HR.out]; rfl, Hp.b (by repeat (first | (with_reducible exact H) | (with_reducible apply Hp.alloc) | (with_reducible apply Hp.set) | (with_reducible apply Hp.drew) | (with_reducible apply Hp.drewN) | (with_reducible apply Hp.bytesW) | (with_reducible exact Upd.here) | (with_reducible exact Upd.hereR) | (with_reducible apply Upd.there) | (with_reducible apply Sz.alloc) | (with_reducible apply Sz.set) | (with_reducible apply Sz.drew) | (with_reducible apply Sz.drewN) | (with_reducible apply Sz.bytesW) | (with_reducible assumption) | (with_reducible exact Sz.base _)))⟩
  have HR : Hid (globF s = globL (segsC 47 s)) := glob_short hb
  rw [HR.out]
  have hb1 : (s.size : Int) ≤ 120 := by omega
  go_enter Tryd.func65, Tryd.ntmps65
  go_wp2_with fail
  refine (l01Parts_hp s 47 _ (by omega)).mono ?_
  rintro e w1 ⟨A', c', rfl, h1⟩
  replace H := Hp.call (by repeat (first | (with_reducible exact H) | (with_reducible apply Hp.alloc) | (with_reducible apply Hp.set) | (with_reducible apply Hp.drew) | (with_reducible apply Hp.drewN) | (with_reducible apply Hp.bytesW) | (with_reducible exact Upd.here) | (with_reducible exact Upd.hereR) | (with_reducible apply Upd.there) | (with_reducible apply Sz.alloc) | (with_reducible apply Sz.set) | (with_reducible apply Sz.drew) | (with_reducible apply Sz.drewN) | (with_reducible apply Sz.bytesW) | (with_reducible assumption) | (with_reducible exact Sz.base _))) h1; (try simp only [List.set_cons_zero, List.set_cons_succ, List.cons_append, List.nil_append] at H); clear h1
  have hpos := segsC_pos 47 s
  have hlen := segsC_len 47 s
  have hsz : ∀ p ∈ segsC 47 s, p.size ≤ 120 := fun p hp => Nat.le_trans (segsC_size hp) hb
  generalize hLs : segsC 47 s = Ls at *
  have HLs := Lib.hid hLs
  clear hLs
  obtain ⟨g, rfl⟩ : ∃ g, A' = some ⟨g, 0, none⟩ := by
    rcases (H.rowAt 0 rfl).2 with ⟨e1, e2⟩ | ⟨g, cap, cur, e1, _⟩
    · omega
    · injection e1 with e1 _ _; exact ⟨g, e1⟩
  have hcl : ∀ k (h : k < Ls.length), w1.cell? ⟨g, k, none⟩ = some (.string Ls[k]) := fun k hk => by
    have h1 := flat_get encStr 1 encStr_len Ls k 0 (by omega)
    rw [Nat.mul_one, Nat.add_zero, List.getElem?_eq_getElem hk] at h1
    have h2 := (H.rowAt 0 rfl).cells (g := g) rfl k (.string Ls[k]) (by rw [h1]; rfl)
    rwa [Addr.add_lit, Nat.zero_add] at h2
  have HCL := Lib.hid hcl
  clear hcl
  have HH := Lib.hid H
  obtain ⟨n, hn⟩ : ∃ n, Ls.length = n := ⟨_, rfl⟩
  have HN := Lib.hid hn
  rw [hn] at hpos hlen ⊢
  clear hn H
  go_wp2_with fail
  go_loop [4] (fun i => ∃ k : Nat, k ≤ n ∧ i = .int .i64 k ∧ Hid (okTo Ls k)) (fun i => n - (intOf i).toNat)
  case atStart => exact ⟨0, Nat.zero_le _, rfl, Lib.hid (okTo_zero Ls)⟩
  case round =>
    obtain ⟨k, hk, rfl, HO⟩ := hrel
    by_cases hlt : k < n
    · have hkL : k < Ls.length := by rw [HN.out]; exact hlt
      have c0 := HCL.out k hkL
      have hz := hsz _ (List.getElem_mem hkL)
      have hq : okSeg Ls.length k Ls[k] = (segF Ls[k] || ((Ls[k].toList == [43]) || ((Ls[k].toList == [42]) && decide (k + 1 = n)))) := by rw [okSeg, HN.out]
      have HY := fun h => okTo_succ HO.out hkL h
      have HZ := fun h => globL_no hkL h
      rw [hq] at HY HZ
      have HY' := Lib.hid HY; have HZ' := Lib.hid HZ
      clear HY HZ hq
      generalize Ls[k] = x at *
      have hk1 : (k : Int) < (n : Int) := by omega
      have hk0 : (0 : Int) ≤ (k : Int) := by omega
      have hzm : x.size ≤ maxLen := by unfold maxLen; omega
      cases h1 : segF x with
      | true =>
        go_wp2_with (go_at_call 86; refine (l01Segment_any _ _ hzm).mono ?_; rintro e w' ⟨rfl, rfl⟩)
        go_round
        case rel => exact ⟨k + 1, by omega, by go_num, Lib.hid (HY'.out (by rw [h1]; rfl))⟩
        case measure => simp [intOf]; omega
      | false =>
      cases h2 : (x.toList == [43]) with
      | true =>
        have h2p : x.toList = [43] := by simpa using h2
        go_wp2_with (go_at_call 86; refine (l01Segment_any _ _ hzm).mono ?_; rintro e w' ⟨rfl, rfl⟩)
        go_round
        case rel => exact ⟨k + 1, by omega, by go_num, Lib.hid (HY'.out (by rw [h1, h2]; rfl))⟩
        case measure => simp [intOf]; omega
      | false =>
      have h2p : ¬ x.toList = [43] := by simpa using h2
      cases h3 : (x.toList == [42]) with
      | false =>
        have h3p : ¬ x.toList = [42] := by simpa using h3
        go_wp2_with (go_at_call 86; refine (l01Segment_any _ _ hzm).mono ?_; rintro e w' ⟨rfl, rfl⟩)
        go_ret
        exact ⟨by rw [HLs.out, HZ'.out (by rw [h1, h2, h3]; rfl)]; rfl, Hp.b (HH.out)⟩
      | true =>
        have h3p : x.toList = [42] := by simpa using h3
        by_cases h4 : k + 1 = n
        · have h4b : ((k : Int) == (n : Int) - 1) = true := beq_iff_eq.2 (by omega)
          have h4d : decide (k + 1 = n) = true := by simpa using h4
          clear h4
          go_wp2_with (go_at_call 86; refine (l01Segment_any _ _ hzm).mono ?_; rintro e w' ⟨rfl, rfl⟩)
          go_round
          case rel => exact ⟨k + 1, by omega, by go_num, Lib.hid (HY'.out (by rw [h1, h2, h3, h4d]; rfl))⟩
          case measure => simp [intOf]; omega
        · have h4b : ((k : Int) == (n : Int) - 1) = false := by rw [beq_eq_false_iff_ne]; omega
          have h4d : decide (k + 1 = n) = false := by simpa using h4
          go_wp2_with (go_at_call 86; refine (l01Segment_any _ _ hzm).mono ?_; rintro e w' ⟨rfl, rfl⟩)
          go_ret
          exact ⟨by rw [HLs.out, HZ'.out (by rw [h1, h2, h3, h4d]; rfl)]; rfl, Hp.b (HH.out)⟩
    · obtain rfl : k = n := by omega
      have HE : Hid (globL Ls = decide (k ≤ 8)) := by
        have h := HO.out
        rw [← HN.out] at h ⊢
        exact globL_end h
      go_wp2_with fail
      go_ret
      exact ⟨by rw [HLs.out, HE.out, show decide (k ≤ 8) = decide ((k : Int) ≤ 8) from decide_eq_decide.2 (by omega)]; rfl, Hp.b (HH.out)⟩
end Go.Proofs.YtklmcbabpncfmaaDoor
namespace Go.Proofs.YtklmcbabpncfmaaDoor
open Go.RowKit
set_option linter.unusedVariables false
set_option linter.unusedSimpArgs false
theorem path_no {s : ByteArray} (h : globF s = false) : pathF s = false := by simp [pathF, h]
theorem path_yes {s : ByteArray} (h : globF s = true) : pathF s = allB freeCh s := by simp [pathF, h]
set_option maxHeartbeats 2000000 in
theorem PathOk_any (s : ByteArray) (w : World) (hs : s.size ≤ maxLen) :
    Calls Tryd.prog 36 #[.string s] w fun e w' => e = .returned (.bool (pathF s)) ∧ Below w.heap.size w w' := by
  have HS := hs
  unfold maxLen at hs
  have H := Hp.nil w
  cases hg : globF s with
  | false =>
    have HR : Hid (pathF s = false) := path_no hg
    go_enter Tryd.func36, Tryd.ntmps36
    go_wp2_with (go_at_call 65; refine (GlobOk_any _ _ HS).mono ?_; rintro e w1 ⟨rfl, hb1⟩; replace H := Hp.step (by repeat (first | (with_reducible exact H) | (with_reducible apply Hp.alloc) | (with_reducible apply Hp.set) | (with_reducible apply Hp.drew) | (with_reducible apply Hp.drewN) | (with_reducible apply Hp.bytesW) | (with_reducible exact Upd.here) | (with_reducible exact Upd.hereR) | (with_reducible apply Upd.there) | (with_reducible apply Sz.alloc) | (with_reducible apply Sz.set) | (with_reducible apply Sz.drew) | (with_reducible apply Sz.drewN) | (with_reducible apply Sz.bytesW) | (with_reducible assumption) | (with_reducible exact Sz.base _))) hb1; (try simp only [List.set_cons_zero, List.set_cons_succ, List.cons_append, List.nil_append] at H))
    go_ret
    exact ⟨by rw [HR.out]; rfl, Hp.b (by repeat (first | (with_reducible exact H) | (with_reducible apply Hp.alloc) | (with_reducible apply Hp.set) | (with_reducible apply Hp.drew) | (with_reducible apply Hp.drewN) | (with_reducible apply Hp.bytesW) | (with_reducible exact Upd.here) | (with_reducible exact Upd.hereR) | (with_reducible apply Upd.there) | (with_reducible apply Sz.alloc) | (with_reducible apply Sz.set) | (with_reducible apply Sz.drew) | (with_reducible apply Sz.drewN) | (with_reducible apply Sz.bytesW) | (with_reducible assumption) | (with_reducible exact Sz.base _)))⟩
  | true =>
  have HR : Hid (pathF s = allB freeCh s) := path_yes hg
  go_enter Tryd.func36, Tryd.ntmps36
  go_wp2_with (go_at_call 65; refine (GlobOk_any _ _ HS).mono ?_; rintro e w1 ⟨rfl, hb1⟩; replace H := Hp.step (by repeat (first | (with_reducible exact H) | (with_reducible apply Hp.alloc) | (with_reducible apply Hp.set) | (with_reducible apply Hp.drew) | (with_reducible apply Hp.drewN) | (with_reducible apply Hp.bytesW) | (with_reducible exact Upd.here) | (with_reducible exact Upd.hereR) | (with_reducible apply Upd.there) | (with_reducible apply Sz.alloc) | (with_reducible apply Sz.set) | (with_reducible apply Sz.drew) | (with_reducible apply Sz.drewN) | (with_reducible apply Sz.bytesW) | (with_reducible assumption) | (with_reducible exact Sz.base _))) hb1; (try simp only [List.set_cons_zero, List.set_cons_succ, List.cons_append, List.nil_append] at H))
  have HH := Lib.hid H
  clear H
  go_loop [3] (fun i => ∃ k : Nat, k ≤ s.size ∧ i = .int .i64 k ∧ Hid ((s.data.toList.take k).all freeCh = true)) (fun i => s.size - (intOf i).toNat)
  case atStart => exact ⟨0, Nat.zero_le _, rfl, rfl⟩
  case round =>
    obtain ⟨k, hk, rfl, HA⟩ := hrel
    by_cases hlt : k < s.size
    · have hT : ∀ c : UInt8, freeCh c = true ↔ (¬ (c.toNat : Int) = 43 ∧ ¬ (c.toNat : Int) = 42) := by intro c; simp [freeCh]; omega
      have HT := Lib.hid hT; clear hT
      by_cases h1 : (s[k].toNat : Int) = 43 <;> by_cases h2 : (s[k].toNat : Int) = 42 <;> (try (exfalso; omega)) <;> go_wp2
      all_goals first
        | (go_round; (case rel => exact ⟨k + 1, by omega, by go_num, allB_snoc freeCh hlt HA.out ((HT.out _).2 (by omega))⟩); (case measure => simp [intOf]; omega))
        | (go_ret; exact ⟨by rw [HR.out, allB_at freeCh hlt (by rw [← Bool.not_eq_true, HT.out]; omega)]; rfl, Hp.b (HH.out)⟩)
        | (exfalso; rename_i hx hw; rcases hx with hx | hx <;> (have := beq_iff_eq.1 hx; omega))
    · have HE : Hid (allB freeCh s = true) := allB_end freeCh hk hlt HA.out
      go_wp2
      go_ret
      exact ⟨by rw [HR.out, HE.out]; rfl, Hp.b (HH.out)⟩
/-- The library's own bound holds some number. -/
def mlOk (w : World) : Prop := ∃ m : Int, w.cell? ⟨0, 0, none⟩ = some (.int .i64 m)
theorem mlOk.on {w w' : World} (h : mlOk w) (hb : Below w.heap.size w w') : mlOk w' := by
  obtain ⟨m, hm⟩ := h
  exact ⟨m, (hb.cell (by have := World.block_lt_of_cell? w _ hm; simpa using this)).trans hm⟩
def segBytes : List UInt8 := [97, 98, 99, 100, 101, 102, 103, 104, 105, 106, 107, 108, 109, 110, 111, 112, 113, 114, 115, 116, 117, 118, 119, 120, 121, 122, 48, 49, 50, 51, 52, 53, 54, 55, 56, 57, 45]
theorem inSet_seg : ∀ b : UInt8, inSet segBytes b = segCh b := by
  have h : ∀ n : Fin 256, inSet segBytes (UInt8.ofNat n.val) = segCh (UInt8.ofNat n.val) := by decide +kernel
  intro b
  have := h ⟨b.toNat, b.toNat_lt⟩
  simpa using this
theorem onlyOf_seg (s : ByteArray) (w : World) (hs : s.size ≤ maxLen) :
    Calls Tryd.prog 94 #[.string s, .string ⟨#[97, 98, 99, 100, 101, 102, 103, 104, 105, 106, 107, 108, 109, 110, 111, 112, 113, 114, 115, 116, 117, 118, 119, 120, 121, 122, 48, 49, 50, 51, 52, 53, 54, 55, 56, 57, 45]⟩] w fun e w' => e = .returned (.bool (allB segCh s)) ∧ w = w' :=
  (onlyOf_any s _ w hs).mono fun e w' ⟨he, hw⟩ => ⟨by rw [he, ← allB_congr inSet_seg s]; rfl, hw⟩
theorem split_hp (s : ByteArray) (w : World) (hs : s.size ≤ 1048576) (hm : mlOk w) :
    Calls Tryd.prog 93 #[.string s, .string ⟨#[47]⟩] w fun e w' => ∃ A' c', e = .returned (.slice A' (segsC 47 s).length c') ∧ Hp w w' [rStr A' c' (segsC 47 s)] := by
  obtain ⟨m, hm⟩ := hm
  refine (Tryd.strings_Split s ⟨#[47]⟩ m w (by omega) hm (by decide)).mono ?_
  rintro e w' ⟨rfl, rfl⟩
  have hl : (segsC 47 s).length = Lib.countB s ⟨#[47]⟩ + 1 := Lib.splitB_all _ (by decide) 0 _ s rfl
  have hle := segsC_len 47 s
  have hx : (segsC 47 s).map Value.string = (segsC 47 s).flatMap encStr := by
    induction segsC 47 s with
    | nil => rfl
    | cons a l ih => simp only [List.map_cons, List.flatMap_cons, encStr, List.singleton_append, ih]
  have H := Hp.nil w
  have H1 : Hp w (w.alloc (.cells ((segsC 47 s).map Value.string).toArray 9)) (box w.heap.size 9 ((segsC 47 s).map Value.string) :: []) := Hp.alloc H (Sz.base w)
  refine ⟨some ⟨w.heap.size, 0, none⟩, (segsC 47 s).length, by rw [hl], ?_⟩
  have H2 := Hp.boxRow H1 0 1 (segsC 47 s).length (segsC 47 s).length rfl (by simp) (Nat.le_refl _) (by unfold maxLen; omega)
  refine Hp.give H2 [0] (by decide) ?_
  rw [hx]
  show [_] = [_]
  congr 1
  unfold rStr
  congr 1
  rw [List.take_of_length_le (by rw [flat_len encStr 1 encStr_len]; omega)]
set_option maxHeartbeats 4000000 in
set_option maxRecDepth 10000 in
theorem isGlob_any (s : ByteArray) (w : World) (hs : s.size ≤ maxLen) (hml : mlOk w) :
    Calls Tryd.prog 74 #[.string s] w fun e w' => e = .returned (.bool (globF s)) ∧ Below w.heap.size w w' := by
  unfold maxLen at hs
  have H := Hp.nil w
  by_cases hb : s.size ≤ 120
  case neg =>
    have HR : Hid (globF s = false) := glob_long hb
    have hb1 : (120 : Int) < (s.size : Int) := by omega
    go_enter Tryd.func74, Tryd.ntmps74
    go_wp2_with fail
    go_ret
    exact ⟨by rw [HR.out]; rfl, Hp.b (by repeat (first | (with_reducible exact H) | (with_reducible apply Hp.alloc) | (with_reducible apply Hp.set) | (with_reducible apply Hp.drew) | (with_reducible apply Hp.drewN) | (with_reducible apply Hp.bytesW) | (with_reducible exact Upd.here) | (with_reducible exact Upd.hereR) | (with_reducible apply Upd.there) | (with_reducible apply Sz.alloc) | (with_reducible apply Sz.set) | (with_reducible apply Sz.drew) | (with_reducible apply Sz.drewN) | (with_reducible apply Sz.bytesW) | (with_reducible assumption) | (with_reducible exact Sz.base _)))⟩
  have HR : Hid (globF s = globL (segsC 47 s)) := glob_short hb
  rw [HR.out]
  have hb1 : (s.size : Int) ≤ 120 := by omega
  go_enter Tryd.func74, Tryd.ntmps74
  go_wp2_with fail
  refine (split_hp s _ (by omega) hml).mono ?_
  rintro e w1 ⟨A', c', rfl, h1⟩
  replace H := Hp.call (by repeat (first | (with_reducible exact H) | (with_reducible apply Hp.alloc) | (with_reducible apply Hp.set) | (with_reducible apply Hp.drew) | (with_reducible apply Hp.drewN) | (with_reducible apply Hp.bytesW) | (with_reducible exact Upd.here) | (with_reducible exact Upd.hereR) | (with_reducible apply Upd.there) | (with_reducible apply Sz.alloc) | (with_reducible apply Sz.set) | (with_reducible apply Sz.drew) | (with_reducible apply Sz.drewN) | (with_reducible apply Sz.bytesW) | (with_reducible assumption) | (with_reducible exact Sz.base _))) h1; (try simp only [List.set_cons_zero, List.set_cons_succ, List.cons_append, List.nil_append] at H); clear h1
  have hpos := segsC_pos 47 s
  have hlen := segsC_len 47 s
  have hsz : ∀ p ∈ segsC 47 s, p.size ≤ 120 := fun p hp => Nat.le_trans (segsC_size hp) hb
  generalize hLs : segsC 47 s = Ls at *
  have HLs := Lib.hid hLs
  clear hLs
  obtain ⟨g, rfl⟩ : ∃ g, A' = some ⟨g, 0, none⟩ := by
    rcases (H.rowAt 0 rfl).2 with ⟨e1, e2⟩ | ⟨g, cap, cur, e1, _⟩
    · omega
    · injection e1 with e1 _ _; exact ⟨g, e1⟩
  have hcl : ∀ k (h : k < Ls.length), w1.cell? ⟨g, k, none⟩ = some (.string Ls[k]) := fun k hk => by
    have h1 := flat_get encStr 1 encStr_len Ls k 0 (by omega)
    rw [Nat.mul_one, Nat.add_zero, List.getElem?_eq_getElem hk] at h1
    have h2 := (H.rowAt 0 rfl).cells (g := g) rfl k (.string Ls[k]) (by rw [h1]; rfl)
    rwa [Addr.add_lit, Nat.zero_add] at h2
  have HCL := Lib.hid hcl
  clear hcl
  have HH := Lib.hid H
  obtain ⟨n, hn⟩ : ∃ n, Ls.length = n := ⟨_, rfl⟩
  have HN := Lib.hid hn
  rw [hn] at hpos hlen ⊢
  clear hn H
  go_wp2_with fail
  go_loop [13] (fun i => ∃ k : Nat, k ≤ n ∧ i = .int .i64 k ∧ Hid (okTo Ls k)) (fun i => n - (intOf i).toNat)
  case atStart => exact ⟨0, Nat.zero_le _, rfl, Lib.hid (okTo_zero Ls)⟩
  case round =>
    obtain ⟨k, hk, rfl, HO⟩ := hrel
    by_cases hlt : k < n
    · have hkL : k < Ls.length := by rw [HN.out]; exact hlt
      have c0 := HCL.out k hkL
      have hz := hsz _ (List.getElem_mem hkL)
      have hq : okSeg Ls.length k Ls[k] = ((inR Ls[k].size 1 16 && allB segCh Ls[k]) || ((Ls[k].toList == [43]) || ((Ls[k].toList == [42]) && decide (k + 1 = n)))) := by rw [okSeg, HN.out]; rfl
      have HY := fun h => okTo_succ HO.out hkL h
      have HZ := fun h => globL_no hkL h
      rw [hq] at HY HZ
      have HY' := Lib.hid HY; have HZ' := Lib.hid HZ
      clear HY HZ hq
      generalize Ls[k] = x at *
      have hk1 : (k : Int) < (n : Int) := by omega
      have hk0 : (0 : Int) ≤ (k : Int) := by omega
      have hzm : x.size ≤ maxLen := by unfold maxLen; omega
      cases h2 : (x.toList == [43]) with
      | true =>
        have h2p : x.toList = [43] := by simpa using h2
        go_wp2_with (first | (go_at_call 67; refine (within_any _ _ _ _).mono ?_; rintro e w' ⟨rfl, rfl⟩) | (go_at_call 94; refine (onlyOf_seg _ _ hzm).mono ?_; rintro e w' ⟨rfl, rfl⟩))
        go_round
        case rel => exact ⟨k + 1, by omega, by go_num, Lib.hid (HY'.out (by simp [*]))⟩
        case measure => simp [intOf]; omega
      | false =>
      have h2p : ¬ x.toList = [43] := by simpa using h2
      have h4b : ((k : Int) == (n : Int) - 1) = decide (k + 1 = n) := by
        by_cases h : k + 1 = n
        · rw [decide_eq_true h]; exact beq_iff_eq.2 (by omega)
        · rw [decide_eq_false h, beq_eq_false_iff_ne]; omega
      cases h3 : (x.toList == [42]) with
      | true =>
        have h3p : x.toList = [42] := by simpa using h3
        cases h5 : decide (k + 1 = n) with
        | true =>
          rw [h5] at h4b
          go_wp2_with (first | (go_at_call 67; refine (within_any _ _ _ _).mono ?_; rintro e w' ⟨rfl, rfl⟩) | (go_at_call 94; refine (onlyOf_seg _ _ hzm).mono ?_; rintro e w' ⟨rfl, rfl⟩))
          go_round
          case rel => exact ⟨k + 1, by omega, by go_num, Lib.hid (HY'.out (by simp [*]))⟩
          case measure => simp [intOf]; omega
        | false =>
          rw [h5] at h4b
          cases h1 : inR x.size 1 16 with
          | false =>
            go_wp2_with (first | (go_at_call 67; refine (within_any _ _ _ _).mono ?_; rintro e w' ⟨rfl, rfl⟩) | (go_at_call 94; refine (onlyOf_seg _ _ hzm).mono ?_; rintro e w' ⟨rfl, rfl⟩))
            go_ret
            exact ⟨by rw [HLs.out, HZ'.out (by simp [*])]; rfl, Hp.b (HH.out)⟩
          | true =>
          cases h6 : allB segCh x with
          | false =>
            go_wp2_with (first | (go_at_call 67; refine (within_any _ _ _ _).mono ?_; rintro e w' ⟨rfl, rfl⟩) | (go_at_call 94; refine (onlyOf_seg _ _ hzm).mono ?_; rintro e w' ⟨rfl, rfl⟩))
            go_ret
            exact ⟨by rw [HLs.out, HZ'.out (by simp [*])]; rfl, Hp.b (HH.out)⟩
          | true =>
            go_wp2_with (first | (go_at_call 67; refine (within_any _ _ _ _).mono ?_; rintro e w' ⟨rfl, rfl⟩) | (go_at_call 94; refine (onlyOf_seg _ _ hzm).mono ?_; rintro e w' ⟨rfl, rfl⟩))
            go_round
            case rel => exact ⟨k + 1, by omega, by go_num, Lib.hid (HY'.out (by simp [*]))⟩
            case measure => simp [intOf]; omega
      | false =>
        have h3p : ¬ x.toList = [42] := by simpa using h3
        cases h1 : inR x.size 1 16 with
        | false =>
          go_wp2_with (first | (go_at_call 67; refine (within_any _ _ _ _).mono ?_; rintro e w' ⟨rfl, rfl⟩) | (go_at_call 94; refine (onlyOf_seg _ _ hzm).mono ?_; rintro e w' ⟨rfl, rfl⟩))
          go_ret
          exact ⟨by rw [HLs.out, HZ'.out (by simp [*])]; rfl, Hp.b (HH.out)⟩
        | true =>
        cases h6 : allB segCh x with
        | false =>
          go_wp2_with (first | (go_at_call 67; refine (within_any _ _ _ _).mono ?_; rintro e w' ⟨rfl, rfl⟩) | (go_at_call 94; refine (onlyOf_seg _ _ hzm).mono ?_; rintro e w' ⟨rfl, rfl⟩))
          go_ret
          exact ⟨by rw [HLs.out, HZ'.out (by simp [*])]; rfl, Hp.b (HH.out)⟩
        | true =>
          go_wp2_with (first | (go_at_call 67; refine (within_any _ _ _ _).mono ?_; rintro e w' ⟨rfl, rfl⟩) | (go_at_call 94; refine (onlyOf_seg _ _ hzm).mono ?_; rintro e w' ⟨rfl, rfl⟩))
          go_round
          case rel => exact ⟨k + 1, by omega, by go_num, Lib.hid (HY'.out (by simp [*]))⟩
          case measure => simp [intOf]; omega
    · obtain rfl : k = n := by omega
      have HE : Hid (globL Ls = decide (k ≤ 8)) := by
        have h := HO.out
        rw [← HN.out] at h ⊢
        exact globL_end h
      go_wp2_with fail
      go_ret
      exact ⟨by rw [HLs.out, HE.out, show decide (k ≤ 8) = decide ((k : Int) ≤ 8) from decide_eq_decide.2 (by omega)]; rfl, Hp.b (HH.out)⟩
set_option maxHeartbeats 2000000 in
theorem isPath_any (s : ByteArray) (w : World) (hs : s.size ≤ maxLen) (hml : mlOk w) :
    Calls Tryd.prog 53 #[.string s] w fun e w' => e = .returned (.bool (pathF s)) ∧ Below w.heap.size w w' := by
  have H := Hp.nil w
  cases hg : globF s with
  | false =>
    have HR : Hid (pathF s = false) := path_no hg
    go_enter Tryd.func53, Tryd.ntmps53
    go_wp2_with (go_at_call 74; refine (isGlob_any _ _ hs hml).mono ?_; rintro e w1 ⟨rfl, hb1⟩; replace H := Hp.step (by repeat (first | (with_reducible exact H) | (with_reducible apply Hp.alloc) | (with_reducible apply Hp.set) | (with_reducible apply Hp.drew) | (with_reducible apply Hp.drewN) | (with_reducible apply Hp.bytesW) | (with_reducible exact Upd.here) | (with_reducible exact Upd.hereR) | (with_reducible apply Upd.there) | (with_reducible apply Sz.alloc) | (with_reducible apply Sz.set) | (with_reducible apply Sz.drew) | (with_reducible apply Sz.drewN) | (with_reducible apply Sz.bytesW) | (with_reducible assumption) | (with_reducible exact Sz.base _))) hb1; (try simp only [List.set_cons_zero, List.set_cons_succ, List.cons_append, List.nil_append] at H))
    go_ret
    exact ⟨by rw [HR.out]; rfl, Hp.b (by repeat (first | (with_reducible exact H) | (with_reducible apply Hp.alloc) | (with_reducible apply Hp.set) | (with_reducible apply Hp.drew) | (with_reducible apply Hp.drewN) | (with_reducible apply Hp.bytesW) | (with_reducible exact Upd.here) | (with_reducible exact Upd.hereR) | (with_reducible apply Upd.there) | (with_reducible apply Sz.alloc) | (with_reducible apply Sz.set) | (with_reducible apply Sz.drew) | (with_reducible apply Sz.drewN) | (with_reducible apply Sz.bytesW) | (with_reducible assumption) | (with_reducible exact Sz.base _)))⟩
  | true =>
  have HR : Hid (pathF s = allB freeCh s) := path_yes hg
  have h120 : s.size ≤ 120 := by simp [globF] at hg; exact hg.1
  have HA := Lib.hid (glob_ascii hg)
  have HC := Lib.hid (containsAny_free s)
  go_enter Tryd.func53, Tryd.ntmps53
  go_wp2_with (first | (go_at_call 74; refine (isGlob_any _ _ hs hml).mono ?_; rintro e w1 ⟨rfl, hb1⟩; replace H := Hp.step (by repeat (first | (with_reducible exact H) | (with_reducible apply Hp.alloc) | (with_reducible apply Hp.set) | (with_reducible apply Hp.drew) | (with_reducible apply Hp.drewN) | (with_reducible apply Hp.bytesW) | (with_reducible exact Upd.here) | (with_reducible exact Upd.hereR) | (with_reducible apply Upd.there) | (with_reducible apply Sz.alloc) | (with_reducible apply Sz.set) | (with_reducible apply Sz.drew) | (with_reducible apply Sz.drewN) | (with_reducible apply Sz.bytesW) | (with_reducible assumption) | (with_reducible exact Sz.base _))) hb1; (try simp only [List.set_cons_zero, List.set_cons_succ, List.cons_append, List.nil_append] at H)) | (go_at_call 75; refine (Tryd.strings_ContainsAny_laid _ ⟨#[43, 42]⟩ _ (by omega) (by decide) HA.out (by intro j b hj; rcases j with _ | _ | j <;> simp at hj <;> subst hj <;> decide)).mono ?_; rintro e w2 ⟨rfl, hb2⟩; replace H := Hp.step (by repeat (first | (with_reducible exact H) | (with_reducible apply Hp.alloc) | (with_reducible apply Hp.set) | (with_reducible apply Hp.drew) | (with_reducible apply Hp.drewN) | (with_reducible apply Hp.bytesW) | (with_reducible exact Upd.here) | (with_reducible exact Upd.hereR) | (with_reducible apply Upd.there) | (with_reducible apply Sz.alloc) | (with_reducible apply Sz.set) | (with_reducible apply Sz.drew) | (with_reducible apply Sz.drewN) | (with_reducible apply Sz.bytesW) | (with_reducible assumption) | (with_reducible exact Sz.base _))) hb2; (try simp only [List.set_cons_zero, List.set_cons_succ, List.cons_append, List.nil_append] at H)))
  go_ret
  exact ⟨by rw [HR.out, ← HC.out]; rfl, Hp.b (by repeat (first | (with_reducible exact H) | (with_reducible apply Hp.alloc) | (with_reducible apply Hp.set) | (with_reducible apply Hp.drew) | (with_reducible apply Hp.drewN) | (with_reducible apply Hp.bytesW) | (with_reducible exact Upd.here) | (with_reducible exact Upd.hereR) | (with_reducible apply Upd.there) | (with_reducible apply Sz.alloc) | (with_reducible apply Sz.set) | (with_reducible apply Sz.drew) | (with_reducible apply Sz.drewN) | (with_reducible apply Sz.bytesW) | (with_reducible assumption) | (with_reducible exact Sz.base _)))⟩
end Go.Proofs.YtklmcbabpncfmaaDoor

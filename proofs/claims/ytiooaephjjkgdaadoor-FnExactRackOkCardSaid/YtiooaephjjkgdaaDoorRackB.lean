/- Racks: which are valid (the program's). No condition. -/
import Derived.Test.YtiooaephjjkgdaaDoorRackA
import Derived.Test.YtiooaephjjkgdaaDoorPathI
import Derived.Deep.RegionHeld3
namespace Go.Proofs.YtiooaephjjkgdaaDoor
open Go.RowKit
set_option linter.unusedVariables false
set_option linter.unusedSimpArgs false
set_option maxHeartbeats 16000000 in
set_option maxRecDepth 10000 in
theorem isRack_any (key next : Int) (A : Option Addr) (n c : Nat) (us : List Wrap) (w : World) (hr : Rd w w.heap.size 6 A n c (us.flatMap encWrap)) (hn : us.length = n) (hsz : ∀ u ∈ us, u.kind.size ≤ maxLen) (hml : mlOk w) :
    Calls Tryd.prog 46 #[.agg #[.int .i64 key, .int .i64 next, .slice A n c]] w fun e w' => e = .returned (.bool (rackOk key next us)) ∧ Below w.heap.size w w' := by
  have hc := hr.2.1
  have hm := hr.2.2.1
  unfold maxLen at hm
  have H := Hp.nil w
  obtain ⟨r, hd⟩ : ∃ r, rackOk key next us = r := ⟨_, rfl⟩
  have HD := Lib.hid hd
  rw [hd]; clear hd
  cases h1 : inR key 0 1099511627776 with
  | false =>
    have HE : Hid (r = false) := by show _ = _; rw [← HD.out, rackOk, h1]; rfl
    clear HD
    go_enter Tryd.func46, Tryd.ntmps46
    go_wp2_with (first | (go_at_call 72; refine (isKey_any _ _).mono ?_; rintro e w' ⟨rfl, rfl⟩; rw [h1]) | (go_at_call 73; refine (within_any _ _ _ _).mono ?_; rintro e w' ⟨rfl, rfl⟩; rw [h2]))
    go_ret
    exact ⟨by rw [HE.out]; rfl, Hp.b (by repeat (first | (with_reducible exact H) | (with_reducible apply Hp.alloc) | (with_reducible apply Hp.set) | (with_reducible apply Hp.drew) | (with_reducible apply Hp.drewN) | (with_reducible apply Hp.bytesW) | (with_reducible exact Upd.here) | (with_reducible exact Upd.hereR) | (with_reducible apply Upd.there) | (with_reducible apply Sz.alloc) | (with_reducible apply Sz.set) | (with_reducible apply Sz.drew) | (with_reducible apply Sz.drewN) | (with_reducible apply Sz.bytesW) | (with_reducible assumption) | (with_reducible exact Sz.base _)))⟩
  | true =>
  cases h2 : inR next 1 1000000000 with
  | false =>
    have HE : Hid (r = false) := by show _ = _; rw [← HD.out, rackOk, h1, h2]; rfl
    clear HD
    go_enter Tryd.func46, Tryd.ntmps46
    go_wp2_with (first | (go_at_call 72; refine (isKey_any _ _).mono ?_; rintro e w' ⟨rfl, rfl⟩; rw [h1]) | (go_at_call 73; refine (within_any _ _ _ _).mono ?_; rintro e w' ⟨rfl, rfl⟩; rw [h2]))
    go_ret
    exact ⟨by rw [HE.out]; rfl, Hp.b (by repeat (first | (with_reducible exact H) | (with_reducible apply Hp.alloc) | (with_reducible apply Hp.set) | (with_reducible apply Hp.drew) | (with_reducible apply Hp.drewN) | (with_reducible apply Hp.bytesW) | (with_reducible exact Upd.here) | (with_reducible exact Upd.hereR) | (with_reducible apply Upd.there) | (with_reducible apply Sz.alloc) | (with_reducible apply Sz.set) | (with_reducible apply Sz.drew) | (with_reducible apply Sz.drewN) | (with_reducible apply Sz.bytesW) | (with_reducible assumption) | (with_reducible exact Sz.base _)))⟩
  | true =>
  by_cases h60 : ¬ n ≤ 60
  · have HE : Hid (r = false) := by show _ = _; rw [← HD.out, rackOk, h1, h2, hn]; simp [h60]
    have h60i : (60 : Int) < (n : Int) := by omega
    clear HD h60
    go_enter Tryd.func46, Tryd.ntmps46
    go_wp2_with (first | (go_at_call 72; refine (isKey_any _ _).mono ?_; rintro e w' ⟨rfl, rfl⟩; rw [h1]) | (go_at_call 73; refine (within_any _ _ _ _).mono ?_; rintro e w' ⟨rfl, rfl⟩; rw [h2]))
    go_ret
    exact ⟨by rw [HE.out]; rfl, Hp.b (by repeat (first | (with_reducible exact H) | (with_reducible apply Hp.alloc) | (with_reducible apply Hp.set) | (with_reducible apply Hp.drew) | (with_reducible apply Hp.drewN) | (with_reducible apply Hp.bytesW) | (with_reducible exact Upd.here) | (with_reducible exact Upd.hereR) | (with_reducible apply Upd.there) | (with_reducible apply Sz.alloc) | (with_reducible apply Sz.set) | (with_reducible apply Sz.drew) | (with_reducible apply Sz.drewN) | (with_reducible apply Sz.bytesW) | (with_reducible assumption) | (with_reducible exact Sz.base _)))⟩
  have h60 : n ≤ 60 := by omega
  have HE : Hid (r = rackRise next us n) := by show _ = _; rw [← HD.out, rackOk, h1, h2, hn]; simp [h60]
  have h60i : ¬ (60 : Int) < (n : Int) := by omega
  have h60b : decide ((60 : Int) < (n : Int)) = false := decide_eq_false h60i
  obtain ⟨hn1, hn2⟩ := inR_true.1 h2
  have hwn : IntKind.i64.wrap (next - 1) = next - 1 := by rw [IntKind.wrap_i64]; omega
  clear HD
  go_enter Tryd.func46, Tryd.ntmps46
  go_wp2_with (first | (go_at_call 72; refine (isKey_any _ _).mono ?_; rintro e w' ⟨rfl, rfl⟩; rw [h1]) | (go_at_call 73; refine (within_any _ _ _ _).mono ?_; rintro e w' ⟨rfl, rfl⟩; rw [h2]))
  clear h60i h60b h1 h2
  have HH := Lib.hid H; clear H
  go_loopw [24] (fun i wr => ∃ k : Nat, k ≤ n ∧ i = .int .i64 k ∧ Hid (rackRise next us k = true) ∧ Hid (Hp w wr [box w.heap.size 29 [.int .i64 key, .int .i64 next, .slice A n c]])) (fun i _ => n - (intOf i).toNat)
  case atStart =>
    have H := HH.out
    exact ⟨0, Nat.zero_le _, rfl, rfl, Lib.hid (by repeat (first | (with_reducible exact H) | (with_reducible apply Hp.alloc) | (with_reducible apply Hp.set) | (with_reducible apply Hp.drew) | (with_reducible apply Hp.drewN) | (with_reducible apply Hp.bytesW) | (with_reducible exact Upd.here) | (with_reducible exact Upd.hereR) | (with_reducible apply Upd.there) | (with_reducible apply Sz.alloc) | (with_reducible apply Sz.set) | (with_reducible apply Sz.drew) | (with_reducible apply Sz.drewN) | (with_reducible apply Sz.bytesW) | (with_reducible assumption) | (with_reducible exact Sz.base _)))⟩
  case round =>
    clear HH
    obtain ⟨k, hk, rfl, HR, HP⟩ := hrel
    have H := HP.out
    have F := H.facts; simp only [Facts, NeF, box, row, reg, cellsF, ne_eq, true_and, and_true, Nat.reduceAdd, Nat.zero_add] at F
    by_cases hlt : k < n
    · obtain ⟨b, off, rfl, hb⟩ := Rd.atW hr hn (by omega)
      have hcs : ∀ (W : World) (L : List Ent), Hp w W L → _ := fun W L h => Rd.wrapAt hr hn (k := k) (by omega) rfl W h.b
      have hls : (us[k]'(by omega)).kind.size ≤ maxLen := hsz _ (List.getElem_mem _)
      have hst : wrapStep next us k = (inR (us[k]'(by omega)).id 1 (next - 1) && (inR (us[k]'(by omega)).ends 1 1000000000 && (pathF (us[k]'(by omega)).kind && (decide (k = 0) || decide (((us[k - 1]?.map (·.id)).getD 0) < (us[k]'(by omega)).id))))) := by
        unfold wrapStep; rw [List.getElem?_eq_getElem (by omega : k < us.length)]
      have hk1 : (k : Int) < (n : Int) := by omega
      have hk0 : (0 : Int) ≤ (k : Int) := by omega
      by_cases hkz : k = 0
      · have hk2 : decide ((0 : Int) < (k : Int)) = false := by simp; omega
        have hk2n : decide (0 < k) = false := by simp; omega
        have hst0 : wrapStep next us k = (inR (us[k]'(by omega)).id 1 (next - 1) && (inR (us[k]'(by omega)).ends 1 1000000000 && pathF (us[k]'(by omega)).kind)) := by rw [hst]; simp [hkz]
        clear hst
        generalize (us[k]'(by omega)) = l at *
        clear hkz
        cases g1 : inR l.id 1 (next - 1) with
        | false =>
          have g2 : True := trivial
          have g3 : True := trivial
          have HN : Hid (rackRise next us n = false) := rackRise_no hlt (by rw [hst0, g1]; rfl)
          clear hst0
          have HCS := Lib.hid hcs
          clear hcs
          obtain ⟨c0, c1, c2, c3, c4, c5⟩ := HCS.out _ _ H
          obtain ⟨id, ends, kind, nonce, data, da, dc, tag⟩ := l
          dsimp only at c0 c1 c2 c3 c4 c5 hls g1 g2 g3
          have hbw : b < wr.heap.size := Nat.lt_of_lt_of_le hb H.b.size
          have hbe : ¬ b = wr.heap.size ∧ ¬ wr.heap.size = b := by omega
          go_wp2_with fail
          replace H := H.alloc (t := 67) (cs := [.int .i64 id, .int .i64 ends, .string kind, .int .i64 nonce, .slice da data.length dc, .int .i64 tag]) (Sz.base wr)
          clear F; have F := H.facts; simp only [Facts, NeF, box, row, reg, cellsF, ne_eq, true_and, and_true, Nat.reduceAdd, Nat.zero_add] at F
          clear F
          (refine wp_region_quiet (C := fun W => Hp w W [box wr.heap.size 67 [.int .i64 id, .int .i64 ends, .string kind, .int .i64 nonce, .slice da data.length dc, .int .i64 tag], box w.heap.size 29 [.int .i64 key, .int .i64 next, .slice (some ⟨b, off, none⟩) n c]]) (by kernel_rfl) (by kernel_rfl) (by show Hp _ (World.drew _) _; exact (by repeat (first | (with_reducible exact H) | (with_reducible apply Hp.alloc) | (with_reducible apply Hp.set) | (with_reducible apply Hp.drew) | (with_reducible apply Hp.drewN) | (with_reducible apply Hp.bytesW) | (with_reducible exact Upd.here) | (with_reducible exact Upd.hereR) | (with_reducible apply Upd.there) | (with_reducible apply Sz.alloc) | (with_reducible apply Sz.set) | (with_reducible apply Sz.drew) | (with_reducible apply Sz.drewN) | (with_reducible apply Sz.bytesW) | (with_reducible assumption) | (with_reducible exact Sz.base _)))) ?_; (repeat (first | go_big_quiet_skip | (refine BigFrame.wpQuiet_want (by rfl) (fun K hK => ?_); unfold Oper.quiet; apply Exists.intro; refine ⟨fun W hW => ?_, hK _ ?_⟩; (focus (have G := hW.facts; simp only [Facts, NeF, box, row, reg, cellsF, ne_eq, true_and, and_true, Nat.reduceAdd, Nat.zero_add] at G; skip; go_simp; first | rfl | (go_at_call 73; refine (within_any _ _ _ _).mono ?_; rintro e w' ⟨rfl, rfl⟩; (first | rw [g1] | rw [g2]); exact ⟨rfl, hW⟩) | (go_at_call 74; refine (isPath_any kind _ hls (hml.on hW.b)).mono ?_; rintro e w1 ⟨rfl, hb1⟩; rw [g3]; exact ⟨rfl, hW.step hb1⟩))); clear hK K; simp only [Act.put, List.setIfInBounds_toArray, List.set_cons_zero, List.set_cons_succ]))); refine wpQuiet_nil ?_; intro wq H; have F := H.facts; simp only [Facts, NeF, box, row, reg, cellsF, ne_eq, true_and, and_true, Nat.reduceAdd, Nat.zero_add] at F)
          all_goals
            go_wp2_with fail
            go_ret
            exact ⟨by rw [HE.out, HN.out]; rfl, Hp.b (by repeat (first | (with_reducible exact H) | (with_reducible apply Hp.alloc) | (with_reducible apply Hp.set) | (with_reducible apply Hp.drew) | (with_reducible apply Hp.drewN) | (with_reducible apply Hp.bytesW) | (with_reducible exact Upd.here) | (with_reducible exact Upd.hereR) | (with_reducible apply Upd.there) | (with_reducible apply Sz.alloc) | (with_reducible apply Sz.set) | (with_reducible apply Sz.drew) | (with_reducible apply Sz.drewN) | (with_reducible apply Sz.bytesW) | (with_reducible assumption) | (with_reducible exact Sz.base _)))⟩
        | true =>
        cases g2 : inR l.ends 1 1000000000 with
        | false =>
          have g3 : True := trivial
          have HN : Hid (rackRise next us n = false) := rackRise_no hlt (by rw [hst0, g1, g2]; rfl)
          clear hst0
          have HCS := Lib.hid hcs
          clear hcs
          obtain ⟨c0, c1, c2, c3, c4, c5⟩ := HCS.out _ _ H
          obtain ⟨id, ends, kind, nonce, data, da, dc, tag⟩ := l
          dsimp only at c0 c1 c2 c3 c4 c5 hls g1 g2 g3
          have hbw : b < wr.heap.size := Nat.lt_of_lt_of_le hb H.b.size
          have hbe : ¬ b = wr.heap.size ∧ ¬ wr.heap.size = b := by omega
          go_wp2_with fail
          replace H := H.alloc (t := 67) (cs := [.int .i64 id, .int .i64 ends, .string kind, .int .i64 nonce, .slice da data.length dc, .int .i64 tag]) (Sz.base wr)
          clear F; have F := H.facts; simp only [Facts, NeF, box, row, reg, cellsF, ne_eq, true_and, and_true, Nat.reduceAdd, Nat.zero_add] at F
          clear F
          (refine wp_region_quiet (C := fun W => Hp w W [box wr.heap.size 67 [.int .i64 id, .int .i64 ends, .string kind, .int .i64 nonce, .slice da data.length dc, .int .i64 tag], box w.heap.size 29 [.int .i64 key, .int .i64 next, .slice (some ⟨b, off, none⟩) n c]]) (by kernel_rfl) (by kernel_rfl) (by show Hp _ (World.drew _) _; exact (by repeat (first | (with_reducible exact H) | (with_reducible apply Hp.alloc) | (with_reducible apply Hp.set) | (with_reducible apply Hp.drew) | (with_reducible apply Hp.drewN) | (with_reducible apply Hp.bytesW) | (with_reducible exact Upd.here) | (with_reducible exact Upd.hereR) | (with_reducible apply Upd.there) | (with_reducible apply Sz.alloc) | (with_reducible apply Sz.set) | (with_reducible apply Sz.drew) | (with_reducible apply Sz.drewN) | (with_reducible apply Sz.bytesW) | (with_reducible assumption) | (with_reducible exact Sz.base _)))) ?_; (repeat (first | go_big_quiet_skip | (refine BigFrame.wpQuiet_want (by rfl) (fun K hK => ?_); unfold Oper.quiet; apply Exists.intro; refine ⟨fun W hW => ?_, hK _ ?_⟩; (focus (have G := hW.facts; simp only [Facts, NeF, box, row, reg, cellsF, ne_eq, true_and, and_true, Nat.reduceAdd, Nat.zero_add] at G; skip; go_simp; first | rfl | (go_at_call 73; refine (within_any _ _ _ _).mono ?_; rintro e w' ⟨rfl, rfl⟩; (first | rw [g1] | rw [g2]); exact ⟨rfl, hW⟩) | (go_at_call 74; refine (isPath_any kind _ hls (hml.on hW.b)).mono ?_; rintro e w1 ⟨rfl, hb1⟩; rw [g3]; exact ⟨rfl, hW.step hb1⟩))); clear hK K; simp only [Act.put, List.setIfInBounds_toArray, List.set_cons_zero, List.set_cons_succ]))); refine wpQuiet_nil ?_; intro wq H; have F := H.facts; simp only [Facts, NeF, box, row, reg, cellsF, ne_eq, true_and, and_true, Nat.reduceAdd, Nat.zero_add] at F)
          all_goals
            go_wp2_with fail
            go_ret
            exact ⟨by rw [HE.out, HN.out]; rfl, Hp.b (by repeat (first | (with_reducible exact H) | (with_reducible apply Hp.alloc) | (with_reducible apply Hp.set) | (with_reducible apply Hp.drew) | (with_reducible apply Hp.drewN) | (with_reducible apply Hp.bytesW) | (with_reducible exact Upd.here) | (with_reducible exact Upd.hereR) | (with_reducible apply Upd.there) | (with_reducible apply Sz.alloc) | (with_reducible apply Sz.set) | (with_reducible apply Sz.drew) | (with_reducible apply Sz.drewN) | (with_reducible apply Sz.bytesW) | (with_reducible assumption) | (with_reducible exact Sz.base _)))⟩
        | true =>
        cases g3 : pathF l.kind with
        | false =>
          have HN : Hid (rackRise next us n = false) := rackRise_no hlt (by rw [hst0, g1, g2, g3]; rfl)
          clear hst0
          have HCS := Lib.hid hcs
          clear hcs
          obtain ⟨c0, c1, c2, c3, c4, c5⟩ := HCS.out _ _ H
          obtain ⟨id, ends, kind, nonce, data, da, dc, tag⟩ := l
          dsimp only at c0 c1 c2 c3 c4 c5 hls g1 g2 g3
          have hbw : b < wr.heap.size := Nat.lt_of_lt_of_le hb H.b.size
          have hbe : ¬ b = wr.heap.size ∧ ¬ wr.heap.size = b := by omega
          go_wp2_with fail
          replace H := H.alloc (t := 67) (cs := [.int .i64 id, .int .i64 ends, .string kind, .int .i64 nonce, .slice da data.length dc, .int .i64 tag]) (Sz.base wr)
          clear F; have F := H.facts; simp only [Facts, NeF, box, row, reg, cellsF, ne_eq, true_and, and_true, Nat.reduceAdd, Nat.zero_add] at F
          clear F
          (refine wp_region_quiet (C := fun W => Hp w W [box wr.heap.size 67 [.int .i64 id, .int .i64 ends, .string kind, .int .i64 nonce, .slice da data.length dc, .int .i64 tag], box w.heap.size 29 [.int .i64 key, .int .i64 next, .slice (some ⟨b, off, none⟩) n c]]) (by kernel_rfl) (by kernel_rfl) (by show Hp _ (World.drew _) _; exact (by repeat (first | (with_reducible exact H) | (with_reducible apply Hp.alloc) | (with_reducible apply Hp.set) | (with_reducible apply Hp.drew) | (with_reducible apply Hp.drewN) | (with_reducible apply Hp.bytesW) | (with_reducible exact Upd.here) | (with_reducible exact Upd.hereR) | (with_reducible apply Upd.there) | (with_reducible apply Sz.alloc) | (with_reducible apply Sz.set) | (with_reducible apply Sz.drew) | (with_reducible apply Sz.drewN) | (with_reducible apply Sz.bytesW) | (with_reducible assumption) | (with_reducible exact Sz.base _)))) ?_; (repeat (first | go_big_quiet_skip | (refine BigFrame.wpQuiet_want (by rfl) (fun K hK => ?_); unfold Oper.quiet; apply Exists.intro; refine ⟨fun W hW => ?_, hK _ ?_⟩; (focus (have G := hW.facts; simp only [Facts, NeF, box, row, reg, cellsF, ne_eq, true_and, and_true, Nat.reduceAdd, Nat.zero_add] at G; skip; go_simp; first | rfl | (go_at_call 73; refine (within_any _ _ _ _).mono ?_; rintro e w' ⟨rfl, rfl⟩; (first | rw [g1] | rw [g2]); exact ⟨rfl, hW⟩) | (go_at_call 74; refine (isPath_any kind _ hls (hml.on hW.b)).mono ?_; rintro e w1 ⟨rfl, hb1⟩; rw [g3]; exact ⟨rfl, hW.step hb1⟩))); clear hK K; simp only [Act.put, List.setIfInBounds_toArray, List.set_cons_zero, List.set_cons_succ]))); refine wpQuiet_nil ?_; intro wq H; have F := H.facts; simp only [Facts, NeF, box, row, reg, cellsF, ne_eq, true_and, and_true, Nat.reduceAdd, Nat.zero_add] at F)
          all_goals
            go_wp2_with fail
            go_ret
            exact ⟨by rw [HE.out, HN.out]; rfl, Hp.b (by repeat (first | (with_reducible exact H) | (with_reducible apply Hp.alloc) | (with_reducible apply Hp.set) | (with_reducible apply Hp.drew) | (with_reducible apply Hp.drewN) | (with_reducible apply Hp.bytesW) | (with_reducible exact Upd.here) | (with_reducible exact Upd.hereR) | (with_reducible apply Upd.there) | (with_reducible apply Sz.alloc) | (with_reducible apply Sz.set) | (with_reducible apply Sz.drew) | (with_reducible apply Sz.drewN) | (with_reducible apply Sz.bytesW) | (with_reducible assumption) | (with_reducible exact Sz.base _)))⟩
        | true =>
          have HN : Hid (rackRise next us (k + 1) = true) := rackRise_snoc HR.out (by rw [hst0, g1, g2, g3]; rfl)
          clear hst0
          have HCS := Lib.hid hcs
          clear hcs
          obtain ⟨c0, c1, c2, c3, c4, c5⟩ := HCS.out _ _ H
          obtain ⟨id, ends, kind, nonce, data, da, dc, tag⟩ := l
          dsimp only at c0 c1 c2 c3 c4 c5 hls g1 g2 g3
          have hbw : b < wr.heap.size := Nat.lt_of_lt_of_le hb H.b.size
          have hbe : ¬ b = wr.heap.size ∧ ¬ wr.heap.size = b := by omega
          go_wp2_with fail
          replace H := H.alloc (t := 67) (cs := [.int .i64 id, .int .i64 ends, .string kind, .int .i64 nonce, .slice da data.length dc, .int .i64 tag]) (Sz.base wr)
          clear F; have F := H.facts; simp only [Facts, NeF, box, row, reg, cellsF, ne_eq, true_and, and_true, Nat.reduceAdd, Nat.zero_add] at F
          clear F
          (refine wp_region_quiet (C := fun W => Hp w W [box wr.heap.size 67 [.int .i64 id, .int .i64 ends, .string kind, .int .i64 nonce, .slice da data.length dc, .int .i64 tag], box w.heap.size 29 [.int .i64 key, .int .i64 next, .slice (some ⟨b, off, none⟩) n c]]) (by kernel_rfl) (by kernel_rfl) (by show Hp _ (World.drew _) _; exact (by repeat (first | (with_reducible exact H) | (with_reducible apply Hp.alloc) | (with_reducible apply Hp.set) | (with_reducible apply Hp.drew) | (with_reducible apply Hp.drewN) | (with_reducible apply Hp.bytesW) | (with_reducible exact Upd.here) | (with_reducible exact Upd.hereR) | (with_reducible apply Upd.there) | (with_reducible apply Sz.alloc) | (with_reducible apply Sz.set) | (with_reducible apply Sz.drew) | (with_reducible apply Sz.drewN) | (with_reducible apply Sz.bytesW) | (with_reducible assumption) | (with_reducible exact Sz.base _)))) ?_; (repeat (first | go_big_quiet_skip | (refine BigFrame.wpQuiet_want (by rfl) (fun K hK => ?_); unfold Oper.quiet; apply Exists.intro; refine ⟨fun W hW => ?_, hK _ ?_⟩; (focus (have G := hW.facts; simp only [Facts, NeF, box, row, reg, cellsF, ne_eq, true_and, and_true, Nat.reduceAdd, Nat.zero_add] at G; skip; go_simp; first | rfl | (go_at_call 73; refine (within_any _ _ _ _).mono ?_; rintro e w' ⟨rfl, rfl⟩; (first | rw [g1] | rw [g2]); exact ⟨rfl, hW⟩) | (go_at_call 74; refine (isPath_any kind _ hls (hml.on hW.b)).mono ?_; rintro e w1 ⟨rfl, hb1⟩; rw [g3]; exact ⟨rfl, hW.step hb1⟩))); clear hK K; simp only [Act.put, List.setIfInBounds_toArray, List.set_cons_zero, List.set_cons_succ]))); refine wpQuiet_nil ?_; intro wq H; have F := H.facts; simp only [Facts, NeF, box, row, reg, cellsF, ne_eq, true_and, and_true, Nat.reduceAdd, Nat.zero_add] at F)
          all_goals
            go_wp2_with fail
            go_roundw
            case rel => exact ⟨k + 1, by omega, by go_num, HN, Lib.hid (by refine Hp.sel (by repeat (first | (with_reducible exact H) | (with_reducible apply Hp.alloc) | (with_reducible apply Hp.set) | (with_reducible apply Hp.drew) | (with_reducible apply Hp.drewN) | (with_reducible apply Hp.bytesW) | (with_reducible exact Upd.here) | (with_reducible exact Upd.hereR) | (with_reducible apply Upd.there) | (with_reducible apply Sz.alloc) | (with_reducible apply Sz.set) | (with_reducible apply Sz.drew) | (with_reducible apply Sz.drewN) | (with_reducible apply Sz.bytesW) | (with_reducible assumption) | (with_reducible exact Sz.base _))) ?_; (try simp only [List.set_cons_zero, List.set_cons_succ]); exact (by repeat (first | (with_reducible exact Sel.nil) | (with_reducible apply Sel.cons) | (with_reducible exact Del.here) | (with_reducible apply Del.there))))⟩
            case measure => simp [intOf]; omega
      · have hk2 : decide ((0 : Int) < (k : Int)) = true := by simp; omega
        have hk2n : decide (0 < k) = true := by simp; omega
        have hw1 : IntKind.i64.wrap ((k : Int) - 1) = (k : Int) - 1 := by rw [IntKind.wrap_i64]; omega
        have hp1 : (k : Int) - 1 < (n : Int) := by omega
        have hp0 : (0 : Int) ≤ (k : Int) - 1 := by omega
        have hp2 : (1 : Int) ≤ (k : Int) := by omega
        have hqs : ∀ (W : World) (L : List Ent), Hp w W L → W.cell? ⟨b, off + (k - 1) * 6, none⟩ = some (.int .i64 (us[k - 1]'(by omega)).id) := fun W L h => (Rd.wrapAt hr hn (k := k - 1) (by omega) rfl W h.b).1
        have hpe : (us[k - 1]?.map (·.id)).getD 0 = (us[k - 1]'(by omega)).id := by rw [List.getElem?_eq_getElem (by omega : k - 1 < us.length)]; rfl
        have hst0 : wrapStep next us k = (inR (us[k]'(by omega)).id 1 (next - 1) && (inR (us[k]'(by omega)).ends 1 1000000000 && (pathF (us[k]'(by omega)).kind && decide ((us[k - 1]'(by omega)).id < (us[k]'(by omega)).id)))) := by rw [hst, hpe]; simp [hkz]
        clear hpe hst
        generalize (us[k - 1]'(by omega)).id = q at *
        have HQS := Lib.hid hqs
        clear hqs
        generalize (us[k]'(by omega)) = l at *
        clear hkz
        cases g1 : inR l.id 1 (next - 1) with
        | false =>
          have g2 : True := trivial
          have g3 : True := trivial
          have HN : Hid (rackRise next us n = false) := rackRise_no hlt (by rw [hst0, g1]; rfl)
          clear hst0
          have HCS := Lib.hid hcs
          clear hcs
          obtain ⟨c0, c1, c2, c3, c4, c5⟩ := HCS.out _ _ H
          obtain ⟨id, ends, kind, nonce, data, da, dc, tag⟩ := l
          dsimp only at c0 c1 c2 c3 c4 c5 hls g1 g2 g3
          have hbw : b < wr.heap.size := Nat.lt_of_lt_of_le hb H.b.size
          have hbe : ¬ b = wr.heap.size ∧ ¬ wr.heap.size = b := by omega
          go_wp2_with fail
          replace H := H.alloc (t := 67) (cs := [.int .i64 id, .int .i64 ends, .string kind, .int .i64 nonce, .slice da data.length dc, .int .i64 tag]) (Sz.base wr)
          clear F; have F := H.facts; simp only [Facts, NeF, box, row, reg, cellsF, ne_eq, true_and, and_true, Nat.reduceAdd, Nat.zero_add] at F
          clear F
          (refine wp_region_quiet (C := fun W => Hp w W [box wr.heap.size 67 [.int .i64 id, .int .i64 ends, .string kind, .int .i64 nonce, .slice da data.length dc, .int .i64 tag], box w.heap.size 29 [.int .i64 key, .int .i64 next, .slice (some ⟨b, off, none⟩) n c]]) (by kernel_rfl) (by kernel_rfl) (by show Hp _ (World.drew _) _; exact (by repeat (first | (with_reducible exact H) | (with_reducible apply Hp.alloc) | (with_reducible apply Hp.set) | (with_reducible apply Hp.drew) | (with_reducible apply Hp.drewN) | (with_reducible apply Hp.bytesW) | (with_reducible exact Upd.here) | (with_reducible exact Upd.hereR) | (with_reducible apply Upd.there) | (with_reducible apply Sz.alloc) | (with_reducible apply Sz.set) | (with_reducible apply Sz.drew) | (with_reducible apply Sz.drewN) | (with_reducible apply Sz.bytesW) | (with_reducible assumption) | (with_reducible exact Sz.base _)))) ?_; (repeat (first | go_big_quiet_skip | (refine BigFrame.wpQuiet_want (by rfl) (fun K hK => ?_); unfold Oper.quiet; apply Exists.intro; refine ⟨fun W hW => ?_, hK _ ?_⟩; (focus (have G := hW.facts; simp only [Facts, NeF, box, row, reg, cellsF, ne_eq, true_and, and_true, Nat.reduceAdd, Nat.zero_add] at G; skip; go_simp; first | rfl | (go_at_call 73; refine (within_any _ _ _ _).mono ?_; rintro e w' ⟨rfl, rfl⟩; (first | rw [g1] | rw [g2]); exact ⟨rfl, hW⟩) | (go_at_call 74; refine (isPath_any kind _ hls (hml.on hW.b)).mono ?_; rintro e w1 ⟨rfl, hb1⟩; rw [g3]; exact ⟨rfl, hW.step hb1⟩))); clear hK K; simp only [Act.put, List.setIfInBounds_toArray, List.set_cons_zero, List.set_cons_succ]))); refine wpQuiet_nil ?_; intro wq H; have F := H.facts; simp only [Facts, NeF, box, row, reg, cellsF, ne_eq, true_and, and_true, Nat.reduceAdd, Nat.zero_add] at F)
          all_goals
            go_wp2_with fail
            go_ret
            exact ⟨by rw [HE.out, HN.out]; rfl, Hp.b (by repeat (first | (with_reducible exact H) | (with_reducible apply Hp.alloc) | (with_reducible apply Hp.set) | (with_reducible apply Hp.drew) | (with_reducible apply Hp.drewN) | (with_reducible apply Hp.bytesW) | (with_reducible exact Upd.here) | (with_reducible exact Upd.hereR) | (with_reducible apply Upd.there) | (with_reducible apply Sz.alloc) | (with_reducible apply Sz.set) | (with_reducible apply Sz.drew) | (with_reducible apply Sz.drewN) | (with_reducible apply Sz.bytesW) | (with_reducible assumption) | (with_reducible exact Sz.base _)))⟩
        | true =>
        cases g2 : inR l.ends 1 1000000000 with
        | false =>
          have g3 : True := trivial
          have HN : Hid (rackRise next us n = false) := rackRise_no hlt (by rw [hst0, g1, g2]; rfl)
          clear hst0
          have HCS := Lib.hid hcs
          clear hcs
          obtain ⟨c0, c1, c2, c3, c4, c5⟩ := HCS.out _ _ H
          obtain ⟨id, ends, kind, nonce, data, da, dc, tag⟩ := l
          dsimp only at c0 c1 c2 c3 c4 c5 hls g1 g2 g3
          have hbw : b < wr.heap.size := Nat.lt_of_lt_of_le hb H.b.size
          have hbe : ¬ b = wr.heap.size ∧ ¬ wr.heap.size = b := by omega
          go_wp2_with fail
          replace H := H.alloc (t := 67) (cs := [.int .i64 id, .int .i64 ends, .string kind, .int .i64 nonce, .slice da data.length dc, .int .i64 tag]) (Sz.base wr)
          clear F; have F := H.facts; simp only [Facts, NeF, box, row, reg, cellsF, ne_eq, true_and, and_true, Nat.reduceAdd, Nat.zero_add] at F
          clear F
          (refine wp_region_quiet (C := fun W => Hp w W [box wr.heap.size 67 [.int .i64 id, .int .i64 ends, .string kind, .int .i64 nonce, .slice da data.length dc, .int .i64 tag], box w.heap.size 29 [.int .i64 key, .int .i64 next, .slice (some ⟨b, off, none⟩) n c]]) (by kernel_rfl) (by kernel_rfl) (by show Hp _ (World.drew _) _; exact (by repeat (first | (with_reducible exact H) | (with_reducible apply Hp.alloc) | (with_reducible apply Hp.set) | (with_reducible apply Hp.drew) | (with_reducible apply Hp.drewN) | (with_reducible apply Hp.bytesW) | (with_reducible exact Upd.here) | (with_reducible exact Upd.hereR) | (with_reducible apply Upd.there) | (with_reducible apply Sz.alloc) | (with_reducible apply Sz.set) | (with_reducible apply Sz.drew) | (with_reducible apply Sz.drewN) | (with_reducible apply Sz.bytesW) | (with_reducible assumption) | (with_reducible exact Sz.base _)))) ?_; (repeat (first | go_big_quiet_skip | (refine BigFrame.wpQuiet_want (by rfl) (fun K hK => ?_); unfold Oper.quiet; apply Exists.intro; refine ⟨fun W hW => ?_, hK _ ?_⟩; (focus (have G := hW.facts; simp only [Facts, NeF, box, row, reg, cellsF, ne_eq, true_and, and_true, Nat.reduceAdd, Nat.zero_add] at G; skip; go_simp; first | rfl | (go_at_call 73; refine (within_any _ _ _ _).mono ?_; rintro e w' ⟨rfl, rfl⟩; (first | rw [g1] | rw [g2]); exact ⟨rfl, hW⟩) | (go_at_call 74; refine (isPath_any kind _ hls (hml.on hW.b)).mono ?_; rintro e w1 ⟨rfl, hb1⟩; rw [g3]; exact ⟨rfl, hW.step hb1⟩))); clear hK K; simp only [Act.put, List.setIfInBounds_toArray, List.set_cons_zero, List.set_cons_succ]))); refine wpQuiet_nil ?_; intro wq H; have F := H.facts; simp only [Facts, NeF, box, row, reg, cellsF, ne_eq, true_and, and_true, Nat.reduceAdd, Nat.zero_add] at F)
          all_goals
            go_wp2_with fail
            go_ret
            exact ⟨by rw [HE.out, HN.out]; rfl, Hp.b (by repeat (first | (with_reducible exact H) | (with_reducible apply Hp.alloc) | (with_reducible apply Hp.set) | (with_reducible apply Hp.drew) | (with_reducible apply Hp.drewN) | (with_reducible apply Hp.bytesW) | (with_reducible exact Upd.here) | (with_reducible exact Upd.hereR) | (with_reducible apply Upd.there) | (with_reducible apply Sz.alloc) | (with_reducible apply Sz.set) | (with_reducible apply Sz.drew) | (with_reducible apply Sz.drewN) | (with_reducible apply Sz.bytesW) | (with_reducible assumption) | (with_reducible exact Sz.base _)))⟩
        | true =>
        cases g3 : pathF l.kind with
        | false =>
          have HN : Hid (rackRise next us n = false) := rackRise_no hlt (by rw [hst0, g1, g2, g3]; rfl)
          clear hst0
          have HCS := Lib.hid hcs
          clear hcs
          obtain ⟨c0, c1, c2, c3, c4, c5⟩ := HCS.out _ _ H
          obtain ⟨id, ends, kind, nonce, data, da, dc, tag⟩ := l
          dsimp only at c0 c1 c2 c3 c4 c5 hls g1 g2 g3
          have hbw : b < wr.heap.size := Nat.lt_of_lt_of_le hb H.b.size
          have hbe : ¬ b = wr.heap.size ∧ ¬ wr.heap.size = b := by omega
          go_wp2_with fail
          replace H := H.alloc (t := 67) (cs := [.int .i64 id, .int .i64 ends, .string kind, .int .i64 nonce, .slice da data.length dc, .int .i64 tag]) (Sz.base wr)
          clear F; have F := H.facts; simp only [Facts, NeF, box, row, reg, cellsF, ne_eq, true_and, and_true, Nat.reduceAdd, Nat.zero_add] at F
          clear F
          (refine wp_region_quiet (C := fun W => Hp w W [box wr.heap.size 67 [.int .i64 id, .int .i64 ends, .string kind, .int .i64 nonce, .slice da data.length dc, .int .i64 tag], box w.heap.size 29 [.int .i64 key, .int .i64 next, .slice (some ⟨b, off, none⟩) n c]]) (by kernel_rfl) (by kernel_rfl) (by show Hp _ (World.drew _) _; exact (by repeat (first | (with_reducible exact H) | (with_reducible apply Hp.alloc) | (with_reducible apply Hp.set) | (with_reducible apply Hp.drew) | (with_reducible apply Hp.drewN) | (with_reducible apply Hp.bytesW) | (with_reducible exact Upd.here) | (with_reducible exact Upd.hereR) | (with_reducible apply Upd.there) | (with_reducible apply Sz.alloc) | (with_reducible apply Sz.set) | (with_reducible apply Sz.drew) | (with_reducible apply Sz.drewN) | (with_reducible apply Sz.bytesW) | (with_reducible assumption) | (with_reducible exact Sz.base _)))) ?_; (repeat (first | go_big_quiet_skip | (refine BigFrame.wpQuiet_want (by rfl) (fun K hK => ?_); unfold Oper.quiet; apply Exists.intro; refine ⟨fun W hW => ?_, hK _ ?_⟩; (focus (have G := hW.facts; simp only [Facts, NeF, box, row, reg, cellsF, ne_eq, true_and, and_true, Nat.reduceAdd, Nat.zero_add] at G; skip; go_simp; first | rfl | (go_at_call 73; refine (within_any _ _ _ _).mono ?_; rintro e w' ⟨rfl, rfl⟩; (first | rw [g1] | rw [g2]); exact ⟨rfl, hW⟩) | (go_at_call 74; refine (isPath_any kind _ hls (hml.on hW.b)).mono ?_; rintro e w1 ⟨rfl, hb1⟩; rw [g3]; exact ⟨rfl, hW.step hb1⟩))); clear hK K; simp only [Act.put, List.setIfInBounds_toArray, List.set_cons_zero, List.set_cons_succ]))); refine wpQuiet_nil ?_; intro wq H; have F := H.facts; simp only [Facts, NeF, box, row, reg, cellsF, ne_eq, true_and, and_true, Nat.reduceAdd, Nat.zero_add] at F)
          all_goals
            go_wp2_with fail
            go_ret
            exact ⟨by rw [HE.out, HN.out]; rfl, Hp.b (by repeat (first | (with_reducible exact H) | (with_reducible apply Hp.alloc) | (with_reducible apply Hp.set) | (with_reducible apply Hp.drew) | (with_reducible apply Hp.drewN) | (with_reducible apply Hp.bytesW) | (with_reducible exact Upd.here) | (with_reducible exact Upd.hereR) | (with_reducible apply Upd.there) | (with_reducible apply Sz.alloc) | (with_reducible apply Sz.set) | (with_reducible apply Sz.drew) | (with_reducible apply Sz.drewN) | (with_reducible apply Sz.bytesW) | (with_reducible assumption) | (with_reducible exact Sz.base _)))⟩
        | true =>
        by_cases g4 : l.id ≤ q
        · have g5 : decide (l.id ≤ q) = true := decide_eq_true g4
          have HN : Hid (rackRise next us n = false) := rackRise_no hlt (by rw [hst0, g1, g2, g3]; simp; omega)
          clear hst0
          have HCS := Lib.hid hcs
          clear hcs
          obtain ⟨c0, c1, c2, c3, c4, c5⟩ := HCS.out _ _ H
          obtain ⟨id, ends, kind, nonce, data, da, dc, tag⟩ := l
          dsimp only at c0 c1 c2 c3 c4 c5 hls g1 g2 g3 g4 g5
          have hbw : b < wr.heap.size := Nat.lt_of_lt_of_le hb H.b.size
          have hbe : ¬ b = wr.heap.size ∧ ¬ wr.heap.size = b := by omega
          go_wp2_with fail
          replace H := H.alloc (t := 67) (cs := [.int .i64 id, .int .i64 ends, .string kind, .int .i64 nonce, .slice da data.length dc, .int .i64 tag]) (Sz.base wr)
          clear F; have F := H.facts; simp only [Facts, NeF, box, row, reg, cellsF, ne_eq, true_and, and_true, Nat.reduceAdd, Nat.zero_add] at F
          clear F
          (refine wp_region_quiet (C := fun W => Hp w W [box wr.heap.size 67 [.int .i64 id, .int .i64 ends, .string kind, .int .i64 nonce, .slice da data.length dc, .int .i64 tag], box w.heap.size 29 [.int .i64 key, .int .i64 next, .slice (some ⟨b, off, none⟩) n c]]) (by kernel_rfl) (by kernel_rfl) (by show Hp _ (World.drew _) _; exact (by repeat (first | (with_reducible exact H) | (with_reducible apply Hp.alloc) | (with_reducible apply Hp.set) | (with_reducible apply Hp.drew) | (with_reducible apply Hp.drewN) | (with_reducible apply Hp.bytesW) | (with_reducible exact Upd.here) | (with_reducible exact Upd.hereR) | (with_reducible apply Upd.there) | (with_reducible apply Sz.alloc) | (with_reducible apply Sz.set) | (with_reducible apply Sz.drew) | (with_reducible apply Sz.drewN) | (with_reducible apply Sz.bytesW) | (with_reducible assumption) | (with_reducible exact Sz.base _)))) ?_; (repeat (first | go_big_quiet_skip | (refine BigFrame.wpQuiet_want (by rfl) (fun K hK => ?_); unfold Oper.quiet; apply Exists.intro; refine ⟨fun W hW => ?_, hK _ ?_⟩; (focus (have G := hW.facts; simp only [Facts, NeF, box, row, reg, cellsF, ne_eq, true_and, and_true, Nat.reduceAdd, Nat.zero_add] at G; have q0 := HQS.out _ _ hW; have hbw9 := Nat.lt_of_lt_of_le hb hW.b.size; go_simp; first | rfl | (go_at_call 73; refine (within_any _ _ _ _).mono ?_; rintro e w' ⟨rfl, rfl⟩; (first | rw [g1] | rw [g2]); exact ⟨rfl, hW⟩) | (go_at_call 74; refine (isPath_any kind _ hls (hml.on hW.b)).mono ?_; rintro e w1 ⟨rfl, hb1⟩; rw [g3]; exact ⟨rfl, hW.step hb1⟩))); clear hK K; simp only [Act.put, List.setIfInBounds_toArray, List.set_cons_zero, List.set_cons_succ]))); refine wpQuiet_nil ?_; intro wq H; have F := H.facts; simp only [Facts, NeF, box, row, reg, cellsF, ne_eq, true_and, and_true, Nat.reduceAdd, Nat.zero_add] at F)
          all_goals
            go_wp2_with fail
            go_ret
            exact ⟨by rw [HE.out, HN.out]; rfl, Hp.b (by repeat (first | (with_reducible exact H) | (with_reducible apply Hp.alloc) | (with_reducible apply Hp.set) | (with_reducible apply Hp.drew) | (with_reducible apply Hp.drewN) | (with_reducible apply Hp.bytesW) | (with_reducible exact Upd.here) | (with_reducible exact Upd.hereR) | (with_reducible apply Upd.there) | (with_reducible apply Sz.alloc) | (with_reducible apply Sz.set) | (with_reducible apply Sz.drew) | (with_reducible apply Sz.drewN) | (with_reducible apply Sz.bytesW) | (with_reducible assumption) | (with_reducible exact Sz.base _)))⟩
        · have g5 : decide (l.id ≤ q) = false := decide_eq_false g4
          have HN : Hid (rackRise next us (k + 1) = true) := rackRise_snoc HR.out (by rw [hst0, g1, g2, g3]; simp; omega)
          clear hst0
          have HCS := Lib.hid hcs
          clear hcs
          obtain ⟨c0, c1, c2, c3, c4, c5⟩ := HCS.out _ _ H
          obtain ⟨id, ends, kind, nonce, data, da, dc, tag⟩ := l
          dsimp only at c0 c1 c2 c3 c4 c5 hls g1 g2 g3 g4 g5
          have hbw : b < wr.heap.size := Nat.lt_of_lt_of_le hb H.b.size
          have hbe : ¬ b = wr.heap.size ∧ ¬ wr.heap.size = b := by omega
          go_wp2_with fail
          replace H := H.alloc (t := 67) (cs := [.int .i64 id, .int .i64 ends, .string kind, .int .i64 nonce, .slice da data.length dc, .int .i64 tag]) (Sz.base wr)
          clear F; have F := H.facts; simp only [Facts, NeF, box, row, reg, cellsF, ne_eq, true_and, and_true, Nat.reduceAdd, Nat.zero_add] at F
          clear F
          (refine wp_region_quiet (C := fun W => Hp w W [box wr.heap.size 67 [.int .i64 id, .int .i64 ends, .string kind, .int .i64 nonce, .slice da data.length dc, .int .i64 tag], box w.heap.size 29 [.int .i64 key, .int .i64 next, .slice (some ⟨b, off, none⟩) n c]]) (by kernel_rfl) (by kernel_rfl) (by show Hp _ (World.drew _) _; exact (by repeat (first | (with_reducible exact H) | (with_reducible apply Hp.alloc) | (with_reducible apply Hp.set) | (with_reducible apply Hp.drew) | (with_reducible apply Hp.drewN) | (with_reducible apply Hp.bytesW) | (with_reducible exact Upd.here) | (with_reducible exact Upd.hereR) | (with_reducible apply Upd.there) | (with_reducible apply Sz.alloc) | (with_reducible apply Sz.set) | (with_reducible apply Sz.drew) | (with_reducible apply Sz.drewN) | (with_reducible apply Sz.bytesW) | (with_reducible assumption) | (with_reducible exact Sz.base _)))) ?_; (repeat (first | go_big_quiet_skip | (refine BigFrame.wpQuiet_want (by rfl) (fun K hK => ?_); unfold Oper.quiet; apply Exists.intro; refine ⟨fun W hW => ?_, hK _ ?_⟩; (focus (have G := hW.facts; simp only [Facts, NeF, box, row, reg, cellsF, ne_eq, true_and, and_true, Nat.reduceAdd, Nat.zero_add] at G; have q0 := HQS.out _ _ hW; have hbw9 := Nat.lt_of_lt_of_le hb hW.b.size; go_simp; first | rfl | (go_at_call 73; refine (within_any _ _ _ _).mono ?_; rintro e w' ⟨rfl, rfl⟩; (first | rw [g1] | rw [g2]); exact ⟨rfl, hW⟩) | (go_at_call 74; refine (isPath_any kind _ hls (hml.on hW.b)).mono ?_; rintro e w1 ⟨rfl, hb1⟩; rw [g3]; exact ⟨rfl, hW.step hb1⟩))); clear hK K; simp only [Act.put, List.setIfInBounds_toArray, List.set_cons_zero, List.set_cons_succ]))); refine wpQuiet_nil ?_; intro wq H; have F := H.facts; simp only [Facts, NeF, box, row, reg, cellsF, ne_eq, true_and, and_true, Nat.reduceAdd, Nat.zero_add] at F)
          all_goals
            go_wp2_with fail
            go_roundw
            case rel => exact ⟨k + 1, by omega, by go_num, HN, Lib.hid (by refine Hp.sel (by repeat (first | (with_reducible exact H) | (with_reducible apply Hp.alloc) | (with_reducible apply Hp.set) | (with_reducible apply Hp.drew) | (with_reducible apply Hp.drewN) | (with_reducible apply Hp.bytesW) | (with_reducible exact Upd.here) | (with_reducible exact Upd.hereR) | (with_reducible apply Upd.there) | (with_reducible apply Sz.alloc) | (with_reducible apply Sz.set) | (with_reducible apply Sz.drew) | (with_reducible apply Sz.drewN) | (with_reducible apply Sz.bytesW) | (with_reducible assumption) | (with_reducible exact Sz.base _))) ?_; (try simp only [List.set_cons_zero, List.set_cons_succ]); exact (by repeat (first | (with_reducible exact Sel.nil) | (with_reducible apply Sel.cons) | (with_reducible exact Del.here) | (with_reducible apply Del.there))))⟩
            case measure => simp [intOf]; omega
    · have HF : Hid (rackRise next us n = true) := by rw [show n = k by omega]; exact HR
      go_wp2_with fail
      go_ret
      exact ⟨by rw [HE.out, HF.out]; rfl, H.b⟩
end Go.Proofs.YtiooaephjjkgdaaDoor

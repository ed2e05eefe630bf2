/- Leases: whether a book is valid (the reference's and the program's). No condition. -/
import Derived.Test.YtlmmeeeoljlgcaaDoorLeaseA
import Derived.Test.YtlmmeeeoljlgcaaDoorLeaseQ
import Derived.Test.YtlmmeeeoljlgcaaDoorM3
import Derived.Deep.RegionHeld3
set_option linter.unusedVariables false
set_option linter.unusedSimpArgs false
namespace Go.Proofs.YtlmmeeeoljlgcaaDoor
open Go.RowKit
set_option linter.unusedVariables false
set_option linter.unusedSimpArgs false
theorem Rd.leaseAt {w : World} {A : Option Addr} {n c : Nat} {us : List Lease} (hr : Rd w w.heap.size 6 A n c (us.flatMap encLease)) (hn : us.length = n) {k : Nat} (hk : k < us.length) {b off : Nat} (hA : A = some ⟨b, off, none⟩) (W : World) (hb : Below w.heap.size w W) :
    W.cell? ⟨b, off + k * 6, none⟩ = some (.int .i64 us[k].id) ∧ W.cell? ⟨b, off + k * 6 + 1, none⟩ = some (.int .i64 us[k].token) ∧ W.cell? ⟨b, off + k * 6 + 2, none⟩ = some (.string us[k].path) ∧ W.cell? ⟨b, off + k * 6 + 3, none⟩ = some (.int .i64 us[k].made) ∧ W.cell? ⟨b, off + k * 6 + 4, none⟩ = some (.int .i64 us[k].ends) ∧ W.cell? ⟨b, off + k * 6 + 5, none⟩ = some (.int .i64 us[k].limit) := by
  obtain ⟨b', off', hA', hb', hcell⟩ := hr.elem encLease_len hn (i := k) (by omega)
  obtain ⟨rfl, rfl⟩ : b = b' ∧ off = off' := by rw [hA] at hA'; simpa using hA'
  refine ⟨?_, ?_, ?_, ?_, ?_, ?_⟩
  · exact (hb.cell (p := ⟨b, off + k * 6, none⟩) hb').trans (by have := hcell 0 _ rfl; simpa using this)
  · exact (hb.cell (p := ⟨b, off + k * 6 + 1, none⟩) hb').trans (hcell 1 _ rfl)
  · exact (hb.cell (p := ⟨b, off + k * 6 + 2, none⟩) hb').trans (hcell 2 _ rfl)
  · exact (hb.cell (p := ⟨b, off + k * 6 + 3, none⟩) hb').trans (hcell 3 _ rfl)
  · exact (hb.cell (p := ⟨b, off + k * 6 + 4, none⟩) hb').trans (hcell 4 _ rfl)
  · exact (hb.cell (p := ⟨b, off + k * 6 + 5, none⟩) hb').trans (hcell 5 _ rfl)
theorem Rd.at {α : Type} {enc : α → List Value} {w : World} {A : Option Addr} {m n c : Nat} {us : List α} (hl : ∀ x, (enc x).length = m) (hr : Rd w w.heap.size m A n c (us.flatMap enc)) (hn : us.length = n) (h0 : 0 < n) : ∃ b off, A = some ⟨b, off, none⟩ ∧ b < w.heap.size := by
  obtain ⟨b, off, h1, h2, _⟩ := hr.elem hl hn (i := 0) h0
  exact ⟨b, off, h1, h2⟩
set_option maxHeartbeats 8000000 in
set_option maxRecDepth 10000 in
theorem specBookOk_any (A : Option Addr) (n c : Nat) (us : List Lease) (w : World) (hr : Rd w w.heap.size 6 A n c (us.flatMap encLease)) (hn : us.length = n) (hsz : ∀ u ∈ us, LeaseFits u) :
    Calls Tryd.prog 27 #[.agg #[.slice A n c]] w fun e w' => e = .returned (.bool (bookOk us)) ∧ Below w.heap.size w w' := by
  have hc := hr.2.1
  have hm := hr.2.2.1
  unfold maxLen at hm
  have H := Hp.nil w
  by_cases h0 : ¬ n ≤ 150
  · have HR : Hid (bookOk us = false) := by show _ = _; simp [bookOk, hn, h0]
    go_enter Tryd.func27, Tryd.ntmps27
    go_wp2_with fail
    go_ret
    exact ⟨by rw [HR.out]; rfl, Hp.b (by repeat (first | (with_reducible exact H) | (with_reducible apply Hp.alloc) | (with_reducible apply Hp.set) | (with_reducible apply Hp.drew) | (with_reducible apply Hp.drewN) | (with_reducible apply Hp.bytesW) | (with_reducible exact Upd.here) | (with_reducible exact Upd.hereR) | (with_reducible apply Upd.there) | (with_reducible apply Sz.alloc) | (with_reducible apply Sz.set) | (with_reducible apply Sz.drew) | (with_reducible apply Sz.drewN) | (with_reducible apply Sz.bytesW) | (with_reducible assumption) | (with_reducible exact Sz.base _)))⟩
  replace h0 : n ≤ 150 := by omega
  have HE : Hid (bookOk us = leaseRise us n) := by show _ = _; simp [bookOk, hn, h0]
  go_enter Tryd.func27, Tryd.ntmps27
  go_wp2_with fail
  have HH := Lib.hid H; clear H
  go_loopw [3] (fun i wr => ∃ k : Nat, k ≤ n ∧ i = .int .i64 k ∧ Hid (leaseRise us k = true) ∧ Hid (Hp w wr [box w.heap.size 28 [.slice A n c]])) (fun i _ => n - (intOf i).toNat)
  case atStart =>
    have H := HH.out
    exact ⟨0, Nat.zero_le _, rfl, rfl, Lib.hid (by repeat (first | (with_reducible exact H) | (with_reducible apply Hp.alloc) | (with_reducible apply Hp.set) | (with_reducible apply Hp.drew) | (with_reducible apply Hp.drewN) | (with_reducible apply Hp.bytesW) | (with_reducible exact Upd.here) | (with_reducible exact Upd.hereR) | (with_reducible apply Upd.there) | (with_reducible apply Sz.alloc) | (with_reducible apply Sz.set) | (with_reducible apply Sz.drew) | (with_reducible apply Sz.drewN) | (with_reducible apply Sz.bytesW) | (with_reducible assumption) | (with_reducible exact Sz.base _)))⟩
  case round =>
    clear HH
    obtain ⟨k, hk, rfl, HR, HP⟩ := hrel
    have H := HP.out
    have F := H.facts; simp only [Facts, NeF, box, row, reg, cellsF, ne_eq, true_and, and_true, Nat.reduceAdd, Nat.zero_add] at F
    by_cases hlt : k < n
    · skip
      obtain ⟨b, off, rfl, hb⟩ := Rd.at encLease_len hr hn (by omega)
      have hcs : ∀ (W : World) (L : List Ent), Hp w W L → _ := fun W L h => Rd.leaseAt hr hn (k := k) (by omega) rfl W h.b
      have hls : (us[k]'(by omega)).path.size ≤ maxLen := hsz _ (List.getElem_mem _)
      have hst : leaseStep us k = (leaseOk (us[k]'(by omega)) && (decide (k = 0) || decide (((us[k - 1]?.map (·.id)).getD 0) < (us[k]'(by omega)).id))) := by
        unfold leaseStep; rw [List.getElem?_eq_getElem (by omega : k < us.length)]
      have hk1 : (k : Int) < (n : Int) := by omega
      have hk0 : (0 : Int) ≤ (k : Int) := by omega
      by_cases hkz : k = 0
      · have h2 : decide (0 < k) = false := by simp; omega
        have h2i : decide ((0 : Int) < (k : Int)) = false := by simp; omega
        generalize (us[k]'(by omega)) = l at *
        cases h1 : leaseOk l with
        | false =>
          have HN : Hid (leaseRise us n = false) := leaseRise_no hlt (by rw [hst, h1]; simp)
          clear hkz
          have HCS := Lib.hid hcs
          clear hcs
          obtain ⟨c0, c1, c2, c3, c4, c5⟩ := HCS.out _ _ H
          obtain ⟨lid, ltoken, lpath, lmade, lends, llimit⟩ := l
          dsimp only at c0 c1 c2 c3 c4 c5 hls
          have HST := Lib.hid hst
          clear hst
          have hbw : b < wr.heap.size := Nat.lt_of_lt_of_le hb H.b.size
          go_wp2_with fail
          clear c0 c1 c2 c3 c4 c5 F
          (refine wp_region_quiet (C := fun W => Hp w W [box w.heap.size 28 [.slice (some ⟨b, off, none⟩) n c]]) (by kernel_rfl) (by kernel_rfl) (by show Hp _ (World.drew _) _; exact (by repeat (first | (with_reducible exact H) | (with_reducible apply Hp.alloc) | (with_reducible apply Hp.set) | (with_reducible apply Hp.drew) | (with_reducible apply Hp.drewN) | (with_reducible apply Hp.bytesW) | (with_reducible exact Upd.here) | (with_reducible exact Upd.hereR) | (with_reducible apply Upd.there) | (with_reducible apply Sz.alloc) | (with_reducible apply Sz.set) | (with_reducible apply Sz.drew) | (with_reducible apply Sz.drewN) | (with_reducible apply Sz.bytesW) | (with_reducible assumption) | (with_reducible exact Sz.base _)))) ?_; (repeat (first | go_big_quiet_skip | (refine BigFrame.wpQuiet_want (by rfl) (fun K hK => ?_); unfold Oper.quiet; apply Exists.intro; refine ⟨fun W hW => ?_, hK _ ?_⟩; (focus (have G := hW.facts; simp only [Facts, NeF, box, row, reg, cellsF, ne_eq, true_and, and_true, Nat.reduceAdd, Nat.zero_add] at G; obtain ⟨c0, c1, c2, c3, c4, c5⟩ := HCS.out _ _ hW; go_simp; first | rfl | (go_at_call 54; refine (l09Lease_any ⟨lid, ltoken, lpath, lmade, lends, llimit⟩ _ hls).mono ?_; rintro e w1 ⟨rfl, hb1⟩; rw [h1]; exact ⟨rfl, hW.step hb1⟩))); clear hK K; simp only [Act.put, List.setIfInBounds_toArray, List.set_cons_zero, List.set_cons_succ]))); refine wpQuiet_nil ?_; intro wq H; have F := H.facts; simp only [Facts, NeF, box, row, reg, cellsF, ne_eq, true_and, and_true, Nat.reduceAdd, Nat.zero_add] at F)
          all_goals
            go_wp2_with fail
            go_ret
            exact ⟨by rw [HE.out, HN.out]; rfl, Hp.b (by repeat (first | (with_reducible exact H) | (with_reducible apply Hp.alloc) | (with_reducible apply Hp.set) | (with_reducible apply Hp.drew) | (with_reducible apply Hp.drewN) | (with_reducible apply Hp.bytesW) | (with_reducible exact Upd.here) | (with_reducible exact Upd.hereR) | (with_reducible apply Upd.there) | (with_reducible apply Sz.alloc) | (with_reducible apply Sz.set) | (with_reducible apply Sz.drew) | (with_reducible apply Sz.drewN) | (with_reducible apply Sz.bytesW) | (with_reducible assumption) | (with_reducible exact Sz.base _)))⟩
        | true =>
          have HN : Hid (leaseRise us (k + 1) = true) := leaseRise_snoc HR.out (by rw [hst, h1]; simp [hkz])
          clear hkz
          have HCS := Lib.hid hcs
          clear hcs
          obtain ⟨c0, c1, c2, c3, c4, c5⟩ := HCS.out _ _ H
          obtain ⟨lid, ltoken, lpath, lmade, lends, llimit⟩ := l
          dsimp only at c0 c1 c2 c3 c4 c5 hls
          have HST := Lib.hid hst
          clear hst
          have hbw : b < wr.heap.size := Nat.lt_of_lt_of_le hb H.b.size
          go_wp2_with fail
          clear c0 c1 c2 c3 c4 c5 F
          (refine wp_region_quiet (C := fun W => Hp w W [box w.heap.size 28 [.slice (some ⟨b, off, none⟩) n c]]) (by kernel_rfl) (by kernel_rfl) (by show Hp _ (World.drew _) _; exact (by repeat (first | (with_reducible exact H) | (with_reducible apply Hp.alloc) | (with_reducible apply Hp.set) | (with_reducible apply Hp.drew) | (with_reducible apply Hp.drewN) | (with_reducible apply Hp.bytesW) | (with_reducible exact Upd.here) | (with_reducible exact Upd.hereR) | (with_reducible apply Upd.there) | (with_reducible apply Sz.alloc) | (with_reducible apply Sz.set) | (with_reducible apply Sz.drew) | (with_reducible apply Sz.drewN) | (with_reducible apply Sz.bytesW) | (with_reducible assumption) | (with_reducible exact Sz.base _)))) ?_; (repeat (first | go_big_quiet_skip | (refine BigFrame.wpQuiet_want (by rfl) (fun K hK => ?_); unfold Oper.quiet; apply Exists.intro; refine ⟨fun W hW => ?_, hK _ ?_⟩; (focus (have G := hW.facts; simp only [Facts, NeF, box, row, reg, cellsF, ne_eq, true_and, and_true, Nat.reduceAdd, Nat.zero_add] at G; obtain ⟨c0, c1, c2, c3, c4, c5⟩ := HCS.out _ _ hW; go_simp; first | rfl | (go_at_call 54; refine (l09Lease_any ⟨lid, ltoken, lpath, lmade, lends, llimit⟩ _ hls).mono ?_; rintro e w1 ⟨rfl, hb1⟩; rw [h1]; exact ⟨rfl, hW.step hb1⟩))); clear hK K; simp only [Act.put, List.setIfInBounds_toArray, List.set_cons_zero, List.set_cons_succ]))); refine wpQuiet_nil ?_; intro wq H; have F := H.facts; simp only [Facts, NeF, box, row, reg, cellsF, ne_eq, true_and, and_true, Nat.reduceAdd, Nat.zero_add] at F)
          all_goals
            go_wp2_with fail
            go_roundw
            case rel => exact ⟨k + 1, by omega, by go_num, HN, Lib.hid (by repeat (first | (with_reducible exact H) | (with_reducible apply Hp.alloc) | (with_reducible apply Hp.set) | (with_reducible apply Hp.drew) | (with_reducible apply Hp.drewN) | (with_reducible apply Hp.bytesW) | (with_reducible exact Upd.here) | (with_reducible exact Upd.hereR) | (with_reducible apply Upd.there) | (with_reducible apply Sz.alloc) | (with_reducible apply Sz.set) | (with_reducible apply Sz.drew) | (with_reducible apply Sz.drewN) | (with_reducible apply Sz.bytesW) | (with_reducible assumption) | (with_reducible exact Sz.base _)))⟩
            case measure => simp [intOf]; omega
      · skip
        have h2 : decide (0 < k) = true := by simp; omega
        have h2i : decide ((0 : Int) < (k : Int)) = true := by simp; omega
        have hw1 : IntKind.i64.wrap ((k : Int) - 1) = (k : Int) - 1 := by rw [IntKind.wrap_i64]; omega
        have hp1 : (k : Int) - 1 < (n : Int) := by omega
        have hp0 : (0 : Int) ≤ (k : Int) - 1 := by omega
        have hp2 : (1 : Int) ≤ (k : Int) := by omega
        have hqs : ∀ (W : World) (L : List Ent), Hp w W L → W.cell? ⟨b, off + (k - 1) * 6, none⟩ = some (.int .i64 (us[k - 1]'(by omega)).id) := fun W L h => (Rd.leaseAt hr hn (k := k - 1) (by omega) rfl W h.b).1
        have hpe : (us[k - 1]?.map (·.id)).getD 0 = (us[k - 1]'(by omega)).id := by rw [List.getElem?_eq_getElem (by omega : k - 1 < us.length)]; rfl
        rw [hpe] at hst
        clear hpe
        generalize (us[k - 1]'(by omega)).id = q at *
        have HQS := Lib.hid hqs
        have q0 := hqs _ _ H
        clear hqs
        generalize (us[k]'(by omega)) = l at *
        cases h1 : leaseOk l with
        | false =>
          have HN : Hid (leaseRise us n = false) := leaseRise_no hlt (by rw [hst, h1]; simp)
          clear hkz
          have HCS := Lib.hid hcs
          clear hcs
          obtain ⟨c0, c1, c2, c3, c4, c5⟩ := HCS.out _ _ H
          obtain ⟨lid, ltoken, lpath, lmade, lends, llimit⟩ := l
          dsimp only at c0 c1 c2 c3 c4 c5 hls
          have HST := Lib.hid hst
          clear hst
          have hbw : b < wr.heap.size := Nat.lt_of_lt_of_le hb H.b.size
          go_wp2_with fail
          clear c0 c1 c2 c3 c4 c5 F q0
          (refine wp_region_quiet (C := fun W => Hp w W [box w.heap.size 28 [.slice (some ⟨b, off, none⟩) n c]]) (by kernel_rfl) (by kernel_rfl) (by show Hp _ (World.drew _) _; exact (by repeat (first | (with_reducible exact H) | (with_reducible apply Hp.alloc) | (with_reducible apply Hp.set) | (with_reducible apply Hp.drew) | (with_reducible apply Hp.drewN) | (with_reducible apply Hp.bytesW) | (with_reducible exact Upd.here) | (with_reducible exact Upd.hereR) | (with_reducible apply Upd.there) | (with_reducible apply Sz.alloc) | (with_reducible apply Sz.set) | (with_reducible apply Sz.drew) | (with_reducible apply Sz.drewN) | (with_reducible apply Sz.bytesW) | (with_reducible assumption) | (with_reducible exact Sz.base _)))) ?_; (repeat (first | go_big_quiet_skip | (refine BigFrame.wpQuiet_want (by rfl) (fun K hK => ?_); unfold Oper.quiet; apply Exists.intro; refine ⟨fun W hW => ?_, hK _ ?_⟩; (focus (have G := hW.facts; simp only [Facts, NeF, box, row, reg, cellsF, ne_eq, true_and, and_true, Nat.reduceAdd, Nat.zero_add] at G; obtain ⟨c0, c1, c2, c3, c4, c5⟩ := HCS.out _ _ hW; have q0 := HQS.out _ _ hW; go_simp; first | rfl | (go_at_call 54; refine (l09Lease_any ⟨lid, ltoken, lpath, lmade, lends, llimit⟩ _ hls).mono ?_; rintro e w1 ⟨rfl, hb1⟩; rw [h1]; exact ⟨rfl, hW.step hb1⟩))); clear hK K; simp only [Act.put, List.setIfInBounds_toArray, List.set_cons_zero, List.set_cons_succ]))); refine wpQuiet_nil ?_; intro wq H; have F := H.facts; simp only [Facts, NeF, box, row, reg, cellsF, ne_eq, true_and, and_true, Nat.reduceAdd, Nat.zero_add] at F)
          all_goals
            go_wp2_with fail
            go_ret
            exact ⟨by rw [HE.out, HN.out]; rfl, Hp.b (by repeat (first | (with_reducible exact H) | (with_reducible apply Hp.alloc) | (with_reducible apply Hp.set) | (with_reducible apply Hp.drew) | (with_reducible apply Hp.drewN) | (with_reducible apply Hp.bytesW) | (with_reducible exact Upd.here) | (with_reducible exact Upd.hereR) | (with_reducible apply Upd.there) | (with_reducible apply Sz.alloc) | (with_reducible apply Sz.set) | (with_reducible apply Sz.drew) | (with_reducible apply Sz.drewN) | (with_reducible apply Sz.bytesW) | (with_reducible assumption) | (with_reducible exact Sz.base _)))⟩
        | true =>
          by_cases h3 : l.id ≤ q
          · have HN : Hid (leaseRise us n = false) := leaseRise_no hlt (by rw [hst, h1]; simp [hkz]; omega)
            have h3b : decide (l.id ≤ q) = true := decide_eq_true h3
            clear hkz
            have HCS := Lib.hid hcs
            clear hcs
            obtain ⟨c0, c1, c2, c3, c4, c5⟩ := HCS.out _ _ H
            obtain ⟨lid, ltoken, lpath, lmade, lends, llimit⟩ := l
            dsimp only at c0 c1 c2 c3 c4 c5 hls
            have HST := Lib.hid hst
            clear hst
            have hbw : b < wr.heap.size := Nat.lt_of_lt_of_le hb H.b.size
            go_wp2_with fail
            clear c0 c1 c2 c3 c4 c5 F q0
            (refine wp_region_quiet (C := fun W => Hp w W [box w.heap.size 28 [.slice (some ⟨b, off, none⟩) n c]]) (by kernel_rfl) (by kernel_rfl) (by show Hp _ (World.drew _) _; exact (by repeat (first | (with_reducible exact H) | (with_reducible apply Hp.alloc) | (with_reducible apply Hp.set) | (with_reducible apply Hp.drew) | (with_reducible apply Hp.drewN) | (with_reducible apply Hp.bytesW) | (with_reducible exact Upd.here) | (with_reducible exact Upd.hereR) | (with_reducible apply Upd.there) | (with_reducible apply Sz.alloc) | (with_reducible apply Sz.set) | (with_reducible apply Sz.drew) | (with_reducible apply Sz.drewN) | (with_reducible apply Sz.bytesW) | (with_reducible assumption) | (with_reducible exact Sz.base _)))) ?_; (repeat (first | go_big_quiet_skip | (refine BigFrame.wpQuiet_want (by rfl) (fun K hK => ?_); unfold Oper.quiet; apply Exists.intro; refine ⟨fun W hW => ?_, hK _ ?_⟩; (focus (have G := hW.facts; simp only [Facts, NeF, box, row, reg, cellsF, ne_eq, true_and, and_true, Nat.reduceAdd, Nat.zero_add] at G; obtain ⟨c0, c1, c2, c3, c4, c5⟩ := HCS.out _ _ hW; have q0 := HQS.out _ _ hW; go_simp; first | rfl | (go_at_call 54; refine (l09Lease_any ⟨lid, ltoken, lpath, lmade, lends, llimit⟩ _ hls).mono ?_; rintro e w1 ⟨rfl, hb1⟩; rw [h1]; exact ⟨rfl, hW.step hb1⟩))); clear hK K; simp only [Act.put, List.setIfInBounds_toArray, List.set_cons_zero, List.set_cons_succ]))); refine wpQuiet_nil ?_; intro wq H; have F := H.facts; simp only [Facts, NeF, box, row, reg, cellsF, ne_eq, true_and, and_true, Nat.reduceAdd, Nat.zero_add] at F)
            all_goals
              go_wp2_with fail
              go_ret
              exact ⟨by rw [HE.out, HN.out]; rfl, Hp.b (by repeat (first | (with_reducible exact H) | (with_reducible apply Hp.alloc) | (with_reducible apply Hp.set) | (with_reducible apply Hp.drew) | (with_reducible apply Hp.drewN) | (with_reducible apply Hp.bytesW) | (with_reducible exact Upd.here) | (with_reducible exact Upd.hereR) | (with_reducible apply Upd.there) | (with_reducible apply Sz.alloc) | (with_reducible apply Sz.set) | (with_reducible apply Sz.drew) | (with_reducible apply Sz.drewN) | (with_reducible apply Sz.bytesW) | (with_reducible assumption) | (with_reducible exact Sz.base _)))⟩
          · have HN : Hid (leaseRise us (k + 1) = true) := leaseRise_snoc HR.out (by rw [hst, h1]; simp; omega)
            have h3b : decide (l.id ≤ q) = false := decide_eq_false h3
            clear hkz
            have HCS := Lib.hid hcs
            clear hcs
            obtain ⟨c0, c1, c2, c3, c4, c5⟩ := HCS.out _ _ H
            obtain ⟨lid, ltoken, lpath, lmade, lends, llimit⟩ := l
            dsimp only at c0 c1 c2 c3 c4 c5 hls
            have HST := Lib.hid hst
            clear hst
            have hbw : b < wr.heap.size := Nat.lt_of_lt_of_le hb H.b.size
            go_wp2_with fail
            clear c0 c1 c2 c3 c4 c5 F q0
            (refine wp_region_quiet (C := fun W => Hp w W [box w.heap.size 28 [.slice (some ⟨b, off, none⟩) n c]]) (by kernel_rfl) (by kernel_rfl) (by show Hp _ (World.drew _) _; exact (by repeat (first | (with_reducible exact H) | (with_reducible apply Hp.alloc) | (with_reducible apply Hp.set) | (with_reducible apply Hp.drew) | (with_reducible apply Hp.drewN) | (with_reducible apply Hp.bytesW) | (with_reducible exact Upd.here) | (with_reducible exact Upd.hereR) | (with_reducible apply Upd.there) | (with_reducible apply Sz.alloc) | (with_reducible apply Sz.set) | (with_reducible apply Sz.drew) | (with_reducible apply Sz.drewN) | (with_reducible apply Sz.bytesW) | (with_reducible assumption) | (with_reducible exact Sz.base _)))) ?_; (repeat (first | go_big_quiet_skip | (refine BigFrame.wpQuiet_want (by rfl) (fun K hK => ?_); unfold Oper.quiet; apply Exists.intro; refine ⟨fun W hW => ?_, hK _ ?_⟩; (focus (have G := hW.facts; simp only [Facts, NeF, box, row, reg, cellsF, ne_eq, true_and, and_true, Nat.reduceAdd, Nat.zero_add] at G; obtain ⟨c0, c1, c2, c3, c4, c5⟩ := HCS.out _ _ hW; have q0 := HQS.out _ _ hW; go_simp; first | rfl | (go_at_call 54; refine (l09Lease_any ⟨lid, ltoken, lpath, lmade, lends, llimit⟩ _ hls).mono ?_; rintro e w1 ⟨rfl, hb1⟩; rw [h1]; exact ⟨rfl, hW.step hb1⟩))); clear hK K; simp only [Act.put, List.setIfInBounds_toArray, List.set_cons_zero, List.set_cons_succ]))); refine wpQuiet_nil ?_; intro wq H; have F := H.facts; simp only [Facts, NeF, box, row, reg, cellsF, ne_eq, true_and, and_true, Nat.reduceAdd, Nat.zero_add] at F)
            all_goals
              go_wp2_with fail
              go_roundw
              case rel => exact ⟨k + 1, by omega, by go_num, HN, Lib.hid (by repeat (first | (with_reducible exact H) | (with_reducible apply Hp.alloc) | (with_reducible apply Hp.set) | (with_reducible apply Hp.drew) | (with_reducible apply Hp.drewN) | (with_reducible apply Hp.bytesW) | (with_reducible exact Upd.here) | (with_reducible exact Upd.hereR) | (with_reducible apply Upd.there) | (with_reducible apply Sz.alloc) | (with_reducible apply Sz.set) | (with_reducible apply Sz.drew) | (with_reducible apply Sz.drewN) | (with_reducible apply Sz.bytesW) | (with_reducible assumption) | (with_reducible exact Sz.base _)))⟩
              case measure => simp [intOf]; omega
    · have HF : Hid (leaseRise us n = true) := by rw [show n = k by omega]; exact HR
      go_wp2_with fail
      go_ret
      exact ⟨by rw [HE.out, HF.out]; rfl, H.b⟩
set_option maxHeartbeats 8000000 in
set_option maxRecDepth 10000 in
theorem isBook_any (A : Option Addr) (n c : Nat) (us : List Lease) (w : World) (hr : Rd w w.heap.size 6 A n c (us.flatMap encLease)) (hn : us.length = n) (hsz : ∀ u ∈ us, LeaseFits u) (hml : mlOk w) :
    Calls Tryd.prog 30 #[.agg #[.slice A n c]] w fun e w' => e = .returned (.bool (bookOk us)) ∧ Below w.heap.size w w' := by
  have hc := hr.2.1
  have hm := hr.2.2.1
  unfold maxLen at hm
  have H := Hp.nil w
  go_enter Tryd.func30, Tryd.ntmps30
  go_wp2_with fail
  have HH := Lib.hid H; clear H
  go_loopw [8] (fun i wr => ∃ k : Nat, k ≤ n ∧ i = .int .i64 k ∧ Hid (leaseRise us k = true) ∧ Hid (Hp w wr [box w.heap.size 28 [.slice A n c]])) (fun i _ => n - (intOf i).toNat)
  case atStart =>
    have H := HH.out
    exact ⟨0, Nat.zero_le _, rfl, rfl, Lib.hid (by repeat (first | (with_reducible exact H) | (with_reducible apply Hp.alloc) | (with_reducible apply Hp.set) | (with_reducible apply Hp.drew) | (with_reducible apply Hp.drewN) | (with_reducible apply Hp.bytesW) | (with_reducible exact Upd.here) | (with_reducible exact Upd.hereR) | (with_reducible apply Upd.there) | (with_reducible apply Sz.alloc) | (with_reducible apply Sz.set) | (with_reducible apply Sz.drew) | (with_reducible apply Sz.drewN) | (with_reducible apply Sz.bytesW) | (with_reducible assumption) | (with_reducible exact Sz.base _)))⟩
  case round =>
    clear HH
    obtain ⟨k, hk, rfl, HR, HP⟩ := hrel
    have H := HP.out
    have F := H.facts; simp only [Facts, NeF, box, row, reg, cellsF, ne_eq, true_and, and_true, Nat.reduceAdd, Nat.zero_add] at F
    by_cases hlt : k < n
    · skip
      obtain ⟨b, off, rfl, hb⟩ := Rd.at encLease_len hr hn (by omega)
      have hcs : ∀ (W : World) (L : List Ent), Hp w W L → _ := fun W L h => Rd.leaseAt hr hn (k := k) (by omega) rfl W h.b
      have hls : (us[k]'(by omega)).path.size ≤ maxLen := hsz _ (List.getElem_mem _)
      have hst : leaseStep us k = (leaseOk (us[k]'(by omega)) && (decide (k = 0) || decide (((us[k - 1]?.map (·.id)).getD 0) < (us[k]'(by omega)).id))) := by
        unfold leaseStep; rw [List.getElem?_eq_getElem (by omega : k < us.length)]
      have hk1 : (k : Int) < (n : Int) := by omega
      have hk0 : (0 : Int) ≤ (k : Int) := by omega
      by_cases hkz : k = 0
      · have h2 : decide (0 < k) = false := by simp; omega
        have h2i : decide ((0 : Int) < (k : Int)) = false := by simp; omega
        generalize (us[k]'(by omega)) = l at *
        cases h1 : leaseOk l with
        | false =>
          have HN : Hid (bookOk us = false) := bookOk_no (by rw [hn]; exact leaseRise_no hlt (by rw [hst, h1]; simp))
          clear hkz
          have HCS := Lib.hid hcs
          clear hcs
          obtain ⟨c0, c1, c2, c3, c4, c5⟩ := HCS.out _ _ H
          obtain ⟨lid, ltoken, lpath, lmade, lends, llimit⟩ := l
          dsimp only at c0 c1 c2 c3 c4 c5 hls
          have HST := Lib.hid hst
          clear hst
          have hbw : b < wr.heap.size := Nat.lt_of_lt_of_le hb H.b.size
          have hbe : ¬ b = wr.heap.size ∧ ¬ wr.heap.size = b := by omega
          go_wp2_with fail
          replace H := H.alloc (t := 40) (cs := [.int .i64 lid, .int .i64 ltoken, .string lpath, .int .i64 lmade, .int .i64 lends, .int .i64 llimit]) (Sz.base wr)
          clear F; have F := H.facts; simp only [Facts, NeF, box, row, reg, cellsF, ne_eq, true_and, and_true, Nat.reduceAdd, Nat.zero_add] at F
          clear F
          (refine wp_region_quiet (C := fun W => Hp w W [box wr.heap.size 40 [.int .i64 lid, .int .i64 ltoken, .string lpath, .int .i64 lmade, .int .i64 lends, .int .i64 llimit], box w.heap.size 28 [.slice (some ⟨b, off, none⟩) n c]]) (by kernel_rfl) (by kernel_rfl) (by show Hp _ (World.drew _) _; exact (by repeat (first | (with_reducible exact H) | (with_reducible apply Hp.alloc) | (with_reducible apply Hp.set) | (with_reducible apply Hp.drew) | (with_reducible apply Hp.drewN) | (with_reducible apply Hp.bytesW) | (with_reducible exact Upd.here) | (with_reducible exact Upd.hereR) | (with_reducible apply Upd.there) | (with_reducible apply Sz.alloc) | (with_reducible apply Sz.set) | (with_reducible apply Sz.drew) | (with_reducible apply Sz.drewN) | (with_reducible apply Sz.bytesW) | (with_reducible assumption) | (with_reducible exact Sz.base _)))) ?_; (repeat (first | go_big_quiet_skip | (refine BigFrame.wpQuiet_want (by rfl) (fun K hK => ?_); unfold Oper.quiet; apply Exists.intro; refine ⟨fun W hW => ?_, hK _ ?_⟩; (focus (have G := hW.facts; simp only [Facts, NeF, box, row, reg, cellsF, ne_eq, true_and, and_true, Nat.reduceAdd, Nat.zero_add] at G; skip; go_simp; first | rfl | (go_at_call 56; refine (isLease_any ⟨lid, ltoken, lpath, lmade, lends, llimit⟩ _ hls (hml.on hW.b)).mono ?_; rintro e w1 ⟨rfl, hb1⟩; rw [h1]; exact ⟨rfl, hW.step hb1⟩))); clear hK K; simp only [Act.put, List.setIfInBounds_toArray, List.set_cons_zero, List.set_cons_succ]))); refine wpQuiet_nil ?_; intro wq H; have F := H.facts; simp only [Facts, NeF, box, row, reg, cellsF, ne_eq, true_and, and_true, Nat.reduceAdd, Nat.zero_add] at F)
          all_goals
            go_wp2_with fail
            go_ret
            exact ⟨by rw [HN.out]; rfl, Hp.b (by repeat (first | (with_reducible exact H) | (with_reducible apply Hp.alloc) | (with_reducible apply Hp.set) | (with_reducible apply Hp.drew) | (with_reducible apply Hp.drewN) | (with_reducible apply Hp.bytesW) | (with_reducible exact Upd.here) | (with_reducible exact Upd.hereR) | (with_reducible apply Upd.there) | (with_reducible apply Sz.alloc) | (with_reducible apply Sz.set) | (with_reducible apply Sz.drew) | (with_reducible apply Sz.drewN) | (with_reducible apply Sz.bytesW) | (with_reducible assumption) | (with_reducible exact Sz.base _)))⟩
        | true =>
          have HN : Hid (leaseRise us (k + 1) = true) := leaseRise_snoc HR.out (by rw [hst, h1]; simp [hkz])
          clear hkz
          have HCS := Lib.hid hcs
          clear hcs
          obtain ⟨c0, c1, c2, c3, c4, c5⟩ := HCS.out _ _ H
          obtain ⟨lid, ltoken, lpath, lmade, lends, llimit⟩ := l
          dsimp only at c0 c1 c2 c3 c4 c5 hls
          have HST := Lib.hid hst
          clear hst
          have hbw : b < wr.heap.size := Nat.lt_of_lt_of_le hb H.b.size
          have hbe : ¬ b = wr.heap.size ∧ ¬ wr.heap.size = b := by omega
          go_wp2_with fail
          replace H := H.alloc (t := 40) (cs := [.int .i64 lid, .int .i64 ltoken, .string lpath, .int .i64 lmade, .int .i64 lends, .int .i64 llimit]) (Sz.base wr)
          clear F; have F := H.facts; simp only [Facts, NeF, box, row, reg, cellsF, ne_eq, true_and, and_true, Nat.reduceAdd, Nat.zero_add] at F
          clear F
          (refine wp_region_quiet (C := fun W => Hp w W [box wr.heap.size 40 [.int .i64 lid, .int .i64 ltoken, .string lpath, .int .i64 lmade, .int .i64 lends, .int .i64 llimit], box w.heap.size 28 [.slice (some ⟨b, off, none⟩) n c]]) (by kernel_rfl) (by kernel_rfl) (by show Hp _ (World.drew _) _; exact (by repeat (first | (with_reducible exact H) | (with_reducible apply Hp.alloc) | (with_reducible apply Hp.set) | (with_reducible apply Hp.drew) | (with_reducible apply Hp.drewN) | (with_reducible apply Hp.bytesW) | (with_reducible exact Upd.here) | (with_reducible exact Upd.hereR) | (with_reducible apply Upd.there) | (with_reducible apply Sz.alloc) | (with_reducible apply Sz.set) | (with_reducible apply Sz.drew) | (with_reducible apply Sz.drewN) | (with_reducible apply Sz.bytesW) | (with_reducible assumption) | (with_reducible exact Sz.base _)))) ?_; (repeat (first | go_big_quiet_skip | (refine BigFrame.wpQuiet_want (by rfl) (fun K hK => ?_); unfold Oper.quiet; apply Exists.intro; refine ⟨fun W hW => ?_, hK _ ?_⟩; (focus (have G := hW.facts; simp only [Facts, NeF, box, row, reg, cellsF, ne_eq, true_and, and_true, Nat.reduceAdd, Nat.zero_add] at G; skip; go_simp; first | rfl | (go_at_call 56; refine (isLease_any ⟨lid, ltoken, lpath, lmade, lends, llimit⟩ _ hls (hml.on hW.b)).mono ?_; rintro e w1 ⟨rfl, hb1⟩; rw [h1]; exact ⟨rfl, hW.step hb1⟩))); clear hK K; simp only [Act.put, List.setIfInBounds_toArray, List.set_cons_zero, List.set_cons_succ]))); refine wpQuiet_nil ?_; intro wq H; have F := H.facts; simp only [Facts, NeF, box, row, reg, cellsF, ne_eq, true_and, and_true, Nat.reduceAdd, Nat.zero_add] at F)
          all_goals
            go_wp2_with fail
            go_roundw
            case rel => exact ⟨k + 1, by omega, by go_num, HN, Lib.hid (by refine Hp.sel (by repeat (first | (with_reducible exact H) | (with_reducible apply Hp.alloc) | (with_reducible apply Hp.set) | (with_reducible apply Hp.drew) | (with_reducible apply Hp.drewN) | (with_reducible apply Hp.bytesW) | (with_reducible exact Upd.here) | (with_reducible exact Upd.hereR) | (with_reducible apply Upd.there) | (with_reducible apply Sz.alloc) | (with_reducible apply Sz.set) | (with_reducible apply Sz.drew) | (with_reducible apply Sz.drewN) | (with_reducible apply Sz.bytesW) | (with_reducible assumption) | (with_reducible exact Sz.base _))) ?_; (try simp only [List.set_cons_zero, List.set_cons_succ]); exact (by repeat (first | (with_reducible exact Sel.nil) | (with_reducible apply Sel.cons) | (with_reducible exact Del.here) | (with_reducible apply Del.there))))⟩
            case measure => simp [intOf]; omega
      · skip
        have h2 : decide (0 < k) = true := by simp; omega
        have h2i : decide ((0 : Int) < (k : Int)) = true := by simp; omega
        have hw1 : IntKind.i64.wrap ((k : Int) - 1) = (k : Int) - 1 := by rw [IntKind.wrap_i64]; omega
        have hp1 : (k : Int) - 1 < (n : Int) := by omega
        have hp0 : (0 : Int) ≤ (k : Int) - 1 := by omega
        have hp2 : (1 : Int) ≤ (k : Int) := by omega
        have hqs : ∀ (W : World) (L : List Ent), Hp w W L → W.cell? ⟨b, off + (k - 1) * 6, none⟩ = some (.int .i64 (us[k - 1]'(by omega)).id) := fun W L h => (Rd.leaseAt hr hn (k := k - 1) (by omega) rfl W h.b).1
        have hpe : (us[k - 1]?.map (·.id)).getD 0 = (us[k - 1]'(by omega)).id := by rw [List.getElem?_eq_getElem (by omega : k - 1 < us.length)]; rfl
        rw [hpe] at hst
        clear hpe
        generalize (us[k - 1]'(by omega)).id = q at *
        have HQS := Lib.hid hqs
        have q0 := hqs _ _ H
        clear hqs
        generalize (us[k]'(by omega)) = l at *
        cases h1 : leaseOk l with
        | false =>
          have HN : Hid (bookOk us = false) := bookOk_no (by rw [hn]; exact leaseRise_no hlt (by rw [hst, h1]; simp))
          clear hkz
          have HCS := Lib.hid hcs
          clear hcs
          obtain ⟨c0, c1, c2, c3, c4, c5⟩ := HCS.out _ _ H
          obtain ⟨lid, ltoken, lpath, lmade, lends, llimit⟩ := l
          dsimp only at c0 c1 c2 c3 c4 c5 hls
          have HST := Lib.hid hst
          clear hst
          have hbw : b < wr.heap.size := Nat.lt_of_lt_of_le hb H.b.size
          have hbe : ¬ b = wr.heap.size ∧ ¬ wr.heap.size = b := by omega
          go_wp2_with fail
          replace H := H.alloc (t := 40) (cs := [.int .i64 lid, .int .i64 ltoken, .string lpath, .int .i64 lmade, .int .i64 lends, .int .i64 llimit]) (Sz.base wr)
          clear F; have F := H.facts; simp only [Facts, NeF, box, row, reg, cellsF, ne_eq, true_and, and_true, Nat.reduceAdd, Nat.zero_add] at F
          clear F q0
          (refine wp_region_quiet (C := fun W => Hp w W [box wr.heap.size 40 [.int .i64 lid, .int .i64 ltoken, .string lpath, .int .i64 lmade, .int .i64 lends, .int .i64 llimit], box w.heap.size 28 [.slice (some ⟨b, off, none⟩) n c]]) (by kernel_rfl) (by kernel_rfl) (by show Hp _ (World.drew _) _; exact (by repeat (first | (with_reducible exact H) | (with_reducible apply Hp.alloc) | (with_reducible apply Hp.set) | (with_reducible apply Hp.drew) | (with_reducible apply Hp.drewN) | (with_reducible apply Hp.bytesW) | (with_reducible exact Upd.here) | (with_reducible exact Upd.hereR) | (with_reducible apply Upd.there) | (with_reducible apply Sz.alloc) | (with_reducible apply Sz.set) | (with_reducible apply Sz.drew) | (with_reducible apply Sz.drewN) | (with_reducible apply Sz.bytesW) | (with_reducible assumption) | (with_reducible exact Sz.base _)))) ?_; (repeat (first | go_big_quiet_skip | (refine BigFrame.wpQuiet_want (by rfl) (fun K hK => ?_); unfold Oper.quiet; apply Exists.intro; refine ⟨fun W hW => ?_, hK _ ?_⟩; (focus (have G := hW.facts; simp only [Facts, NeF, box, row, reg, cellsF, ne_eq, true_and, and_true, Nat.reduceAdd, Nat.zero_add] at G; have q0 := HQS.out _ _ hW; go_simp; first | rfl | (go_at_call 56; refine (isLease_any ⟨lid, ltoken, lpath, lmade, lends, llimit⟩ _ hls (hml.on hW.b)).mono ?_; rintro e w1 ⟨rfl, hb1⟩; rw [h1]; exact ⟨rfl, hW.step hb1⟩))); clear hK K; simp only [Act.put, List.setIfInBounds_toArray, List.set_cons_zero, List.set_cons_succ]))); refine wpQuiet_nil ?_; intro wq H; have F := H.facts; simp only [Facts, NeF, box, row, reg, cellsF, ne_eq, true_and, and_true, Nat.reduceAdd, Nat.zero_add] at F)
          all_goals
            go_wp2_with fail
            go_ret
            exact ⟨by rw [HN.out]; rfl, Hp.b (by repeat (first | (with_reducible exact H) | (with_reducible apply Hp.alloc) | (with_reducible apply Hp.set) | (with_reducible apply Hp.drew) | (with_reducible apply Hp.drewN) | (with_reducible apply Hp.bytesW) | (with_reducible exact Upd.here) | (with_reducible exact Upd.hereR) | (with_reducible apply Upd.there) | (with_reducible apply Sz.alloc) | (with_reducible apply Sz.set) | (with_reducible apply Sz.drew) | (with_reducible apply Sz.drewN) | (with_reducible apply Sz.bytesW) | (with_reducible assumption) | (with_reducible exact Sz.base _)))⟩
        | true =>
          by_cases h3 : l.id ≤ q
          · have HN : Hid (bookOk us = false) := bookOk_no (by rw [hn]; exact leaseRise_no hlt (by rw [hst, h1]; simp [hkz]; omega))
            have h3b : decide (l.id ≤ q) = true := decide_eq_true h3
            clear hkz
            have HCS := Lib.hid hcs
            clear hcs
            obtain ⟨c0, c1, c2, c3, c4, c5⟩ := HCS.out _ _ H
            obtain ⟨lid, ltoken, lpath, lmade, lends, llimit⟩ := l
            dsimp only at c0 c1 c2 c3 c4 c5 hls
            have HST := Lib.hid hst
            clear hst
            have hbw : b < wr.heap.size := Nat.lt_of_lt_of_le hb H.b.size
            have hbe : ¬ b = wr.heap.size ∧ ¬ wr.heap.size = b := by omega
            go_wp2_with fail
            replace H := H.alloc (t := 40) (cs := [.int .i64 lid, .int .i64 ltoken, .string lpath, .int .i64 lmade, .int .i64 lends, .int .i64 llimit]) (Sz.base wr)
            clear F; have F := H.facts; simp only [Facts, NeF, box, row, reg, cellsF, ne_eq, true_and, and_true, Nat.reduceAdd, Nat.zero_add] at F
            clear F q0
            (refine wp_region_quiet (C := fun W => Hp w W [box wr.heap.size 40 [.int .i64 lid, .int .i64 ltoken, .string lpath, .int .i64 lmade, .int .i64 lends, .int .i64 llimit], box w.heap.size 28 [.slice (some ⟨b, off, none⟩) n c]]) (by kernel_rfl) (by kernel_rfl) (by show Hp _ (World.drew _) _; exact (by repeat (first | (with_reducible exact H) | (with_reducible apply Hp.alloc) | (with_reducible apply Hp.set) | (with_reducible apply Hp.drew) | (with_reducible apply Hp.drewN) | (with_reducible apply Hp.bytesW) | (with_reducible exact Upd.here) | (with_reducible exact Upd.hereR) | (with_reducible apply Upd.there) | (with_reducible apply Sz.alloc) | (with_reducible apply Sz.set) | (with_reducible apply Sz.drew) | (with_reducible apply Sz.drewN) | (with_reducible apply Sz.bytesW) | (with_reducible assumption) | (with_reducible exact Sz.base _)))) ?_; (repeat (first | go_big_quiet_skip | (refine BigFrame.wpQuiet_want (by rfl) (fun K hK => ?_); unfold Oper.quiet; apply Exists.intro; refine ⟨fun W hW => ?_, hK _ ?_⟩; (focus (have G := hW.facts; simp only [Facts, NeF, box, row, reg, cellsF, ne_eq, true_and, and_true, Nat.reduceAdd, Nat.zero_add] at G; have q0 := HQS.out _ _ hW; go_simp; first | rfl | (go_at_call 56; refine (isLease_any ⟨lid, ltoken, lpath, lmade, lends, llimit⟩ _ hls (hml.on hW.b)).mono ?_; rintro e w1 ⟨rfl, hb1⟩; rw [h1]; exact ⟨rfl, hW.step hb1⟩))); clear hK K; simp only [Act.put, List.setIfInBounds_toArray, List.set_cons_zero, List.set_cons_succ]))); refine wpQuiet_nil ?_; intro wq H; have F := H.facts; simp only [Facts, NeF, box, row, reg, cellsF, ne_eq, true_and, and_true, Nat.reduceAdd, Nat.zero_add] at F)
            all_goals
              go_wp2_with fail
              go_ret
              exact ⟨by rw [HN.out]; rfl, Hp.b (by repeat (first | (with_reducible exact H) | (with_reducible apply Hp.alloc) | (with_reducible apply Hp.set) | (with_reducible apply Hp.drew) | (with_reducible apply Hp.drewN) | (with_reducible apply Hp.bytesW) | (with_reducible exact Upd.here) | (with_reducible exact Upd.hereR) | (with_reducible apply Upd.there) | (with_reducible apply Sz.alloc) | (with_reducible apply Sz.set) | (with_reducible apply Sz.drew) | (with_reducible apply Sz.drewN) | (with_reducible apply Sz.bytesW) | (with_reducible assumption) | (with_reducible exact Sz.base _)))⟩
          · have HN : Hid (leaseRise us (k + 1) = true) := leaseRise_snoc HR.out (by rw [hst, h1]; simp; omega)
            have h3b : decide (l.id ≤ q) = false := decide_eq_false h3
            clear hkz
            have HCS := Lib.hid hcs
            clear hcs
            obtain ⟨c0, c1, c2, c3, c4, c5⟩ := HCS.out _ _ H
            obtain ⟨lid, ltoken, lpath, lmade, lends, llimit⟩ := l
            dsimp only at c0 c1 c2 c3 c4 c5 hls
            have HST := Lib.hid hst
            clear hst
            have hbw : b < wr.heap.size := Nat.lt_of_lt_of_le hb H.b.size
            have hbe : ¬ b = wr.heap.size ∧ ¬ wr.heap.size = b := by omega
            go_wp2_with fail
            replace H := H.alloc (t := 40) (cs := [.int .i64 lid, .int .i64 ltoken, .string lpath, .int .i64 lmade, .int .i64 lends, .int .i64 llimit]) (Sz.base wr)
            clear F; have F := H.facts; simp only [Facts, NeF, box, row, reg, cellsF, ne_eq, true_and, and_true, Nat.reduceAdd, Nat.zero_add] at F
            clear F q0
            (refine wp_region_quiet (C := fun W => Hp w W [box wr.heap.size 40 [.int .i64 lid, .int .i64 ltoken, .string lpath, .int .i64 lmade, .int .i64 lends, .int .i64 llimit], box w.heap.size 28 [.slice (some ⟨b, off, none⟩) n c]]) (by kernel_rfl) (by kernel_rfl) (by show Hp _ (World.drew _) _; exact (by repeat (first | (with_reducible exact H) | (with_reducible apply Hp.alloc) | (with_reducible apply Hp.set) | (with_reducible apply Hp.drew) | (with_reducible apply Hp.drewN) | (with_reducible apply Hp.bytesW) | (with_reducible exact Upd.here) | (with_reducible exact Upd.hereR) | (with_reducible apply Upd.there) | (with_reducible apply Sz.alloc) | (with_reducible apply Sz.set) | (with_reducible apply Sz.drew) | (with_reducible apply Sz.drewN) | (with_reducible apply Sz.bytesW) | (with_reducible assumption) | (with_reducible exact Sz.base _)))) ?_; (repeat (first | go_big_quiet_skip | (refine BigFrame.wpQuiet_want (by rfl) (fun K hK => ?_); unfold Oper.quiet; apply Exists.intro; refine ⟨fun W hW => ?_, hK _ ?_⟩; (focus (have G := hW.facts; simp only [Facts, NeF, box, row, reg, cellsF, ne_eq, true_and, and_true, Nat.reduceAdd, Nat.zero_add] at G; have q0 := HQS.out _ _ hW; go_simp; first | rfl | (go_at_call 56; refine (isLease_any ⟨lid, ltoken, lpath, lmade, lends, llimit⟩ _ hls (hml.on hW.b)).mono ?_; rintro e w1 ⟨rfl, hb1⟩; rw [h1]; exact ⟨rfl, hW.step hb1⟩))); clear hK K; simp only [Act.put, List.setIfInBounds_toArray, List.set_cons_zero, List.set_cons_succ]))); refine wpQuiet_nil ?_; intro wq H; have F := H.facts; simp only [Facts, NeF, box, row, reg, cellsF, ne_eq, true_and, and_true, Nat.reduceAdd, Nat.zero_add] at F)
            all_goals
              go_wp2_with fail
              go_roundw
              case rel => exact ⟨k + 1, by omega, by go_num, HN, Lib.hid (by refine Hp.sel (by repeat (first | (with_reducible exact H) | (with_reducible apply Hp.alloc) | (with_reducible apply Hp.set) | (with_reducible apply Hp.drew) | (with_reducible apply Hp.drewN) | (with_reducible apply Hp.bytesW) | (with_reducible exact Upd.here) | (with_reducible exact Upd.hereR) | (with_reducible apply Upd.there) | (with_reducible apply Sz.alloc) | (with_reducible apply Sz.set) | (with_reducible apply Sz.drew) | (with_reducible apply Sz.drewN) | (with_reducible apply Sz.bytesW) | (with_reducible assumption) | (with_reducible exact Sz.base _))) ?_; (try simp only [List.set_cons_zero, List.set_cons_succ]); exact (by repeat (first | (with_reducible exact Sel.nil) | (with_reducible apply Sel.cons) | (with_reducible exact Del.here) | (with_reducible apply Del.there))))⟩
              case measure => simp [intOf]; omega
    · have HF : Hid (leaseRise us us.length = true) := by rw [hn, show n = k by omega]; exact HR
      have HE : Hid (bookOk us = decide (n ≤ 150)) := by show _ = _; rw [bookOk, HF.out, hn]; simp
      have hd : decide ((n : Int) ≤ 150) = decide (n ≤ 150) := decide_eq_decide.2 (by omega)
      go_wp2_with fail
      go_ret
      exact ⟨by rw [HE.out, ← hd]; rfl, H.b⟩
end Go.Proofs.YtlmmeeeoljlgcaaDoor

/- Piles: which are valid (the reference's and the program's). No condition. -/
import Derived.Test.YtlblkpcjknjijaaGreatDoorPileB
set_option linter.unusedVariables false
set_option linter.unusedSimpArgs false
namespace Go.Proofs.YtlblkpcjknjijaaGreatDoor
open Go.RowKit
set_option linter.unusedVariables false
set_option linter.unusedSimpArgs false
set_option maxHeartbeats 16000000 in
set_option maxRecDepth 10000 in
theorem isPile_any (A0 : Option Addr) (n0 c0 : Nat) (cs : List Cert) (A1 : Option Addr) (n1 c1 : Nat) (ks : List CertKey) (A2 : Option Addr) (n2 c2 : Nat) (ds : List Int) (w : World) (hr0 : Rd w w.heap.size 8 A0 n0 c0 (cs.flatMap encCert)) (hn0 : cs.length = n0) (hsz : ∀ u ∈ cs, CertFits u) (hr1 : Rd w w.heap.size 2 A1 n1 c1 (ks.flatMap encCertKey)) (hn1 : ks.length = n1) (hr2 : Rd w w.heap.size 1 A2 n2 c2 (ds.flatMap encInt)) (hn2 : ds.length = n2) (hml : mlOk w) :
    Calls Tryz.prog 29 #[pileV A0 n0 c0 A1 n1 c1 A2 n2 c2] w fun e w' => e = .returned (.bool (pileOk cs ks ds)) ∧ Below w.heap.size w w' := by
  have hc := hr0.2.1
  have hm := hr0.2.2.1
  have hc1 := hr1.2.1
  have hm1 := hr1.2.2.1
  have hc2 := hr2.2.1
  have hm2 := hr2.2.2.1
  unfold maxLen at hm hm1 hm2
  have H := Hp.nil w
  by_cases h60 : ¬ n0 ≤ 60
  · have HR : Hid (pileOk cs ks ds = false) := pileOk_a (by rw [hn0]; exact h60)
    go_enter Tryz.func29, Tryz.ntmps29
    go_wp2_with fail
    go_ret
    exact ⟨by rw [HR.out]; rfl, Hp.b (by repeat (first | (with_reducible exact H) | (with_reducible apply Hp.alloc) | (with_reducible apply Hp.set) | (with_reducible apply Hp.drew) | (with_reducible apply Hp.drewN) | (with_reducible apply Hp.bytesW) | (with_reducible exact Upd.here) | (with_reducible exact Upd.hereR) | (with_reducible apply Upd.there) | (with_reducible apply Sz.alloc) | (with_reducible apply Sz.set) | (with_reducible apply Sz.drew) | (with_reducible apply Sz.drewN) | (with_reducible apply Sz.bytesW) | (with_reducible assumption) | (with_reducible exact Sz.base _)))⟩
  replace h60 : n0 ≤ 60 := by omega
  by_cases h61 : ¬ n1 = n0
  · have HR : Hid (pileOk cs ks ds = false) := pileOk_b (by rw [hn0, hn1]; exact h61)
    have h61i : ¬ (n1 : Int) = (n0 : Int) := by omega
    go_enter Tryz.func29, Tryz.ntmps29
    go_wp2_with fail
    go_ret
    exact ⟨by rw [HR.out]; rfl, Hp.b (by repeat (first | (with_reducible exact H) | (with_reducible apply Hp.alloc) | (with_reducible apply Hp.set) | (with_reducible apply Hp.drew) | (with_reducible apply Hp.drewN) | (with_reducible apply Hp.bytesW) | (with_reducible exact Upd.here) | (with_reducible exact Upd.hereR) | (with_reducible apply Upd.there) | (with_reducible apply Sz.alloc) | (with_reducible apply Sz.set) | (with_reducible apply Sz.drew) | (with_reducible apply Sz.drewN) | (with_reducible apply Sz.bytesW) | (with_reducible assumption) | (with_reducible exact Sz.base _)))⟩
  obtain rfl : n1 = n0 := by omega
  clear h61
  by_cases h62 : ¬ n2 ≤ 60
  · have HR : Hid (pileOk cs ks ds = false) := pileOk_c (by rw [hn2]; simp [h62])
    go_enter Tryz.func29, Tryz.ntmps29
    go_wp2_with fail
    go_ret
    exact ⟨by rw [HR.out]; rfl, Hp.b (by repeat (first | (with_reducible exact H) | (with_reducible apply Hp.alloc) | (with_reducible apply Hp.set) | (with_reducible apply Hp.drew) | (with_reducible apply Hp.drewN) | (with_reducible apply Hp.bytesW) | (with_reducible exact Upd.here) | (with_reducible exact Upd.hereR) | (with_reducible apply Upd.there) | (with_reducible apply Sz.alloc) | (with_reducible apply Sz.set) | (with_reducible apply Sz.drew) | (with_reducible apply Sz.drewN) | (with_reducible apply Sz.bytesW) | (with_reducible assumption) | (with_reducible exact Sz.base _)))⟩
  replace h62 : n2 ≤ 60 := by omega
  go_enter Tryz.func29, Tryz.ntmps29
  go_wp2_with fail
  have HH := Lib.hid H; clear H
  go_loopw [29] (fun i wr => ∃ k : Nat, k ≤ n1 ∧ i = .int .i64 k ∧ Hid (pileRise cs ks k = true) ∧ Hid (Hp w wr [box w.heap.size 28 [.slice A0 n1 c0, .slice A1 n1 c1, .slice A2 n2 c2]])) (fun i _ => n1 - (intOf i).toNat)
  case atStart =>
    have H := HH.out
    exact ⟨0, Nat.zero_le _, rfl, rfl, Lib.hid (by repeat (first | (with_reducible exact H) | (with_reducible apply Hp.alloc) | (with_reducible apply Hp.set) | (with_reducible apply Hp.drew) | (with_reducible apply Hp.drewN) | (with_reducible apply Hp.bytesW) | (with_reducible exact Upd.here) | (with_reducible exact Upd.hereR) | (with_reducible apply Upd.there) | (with_reducible apply Sz.alloc) | (with_reducible apply Sz.set) | (with_reducible apply Sz.drew) | (with_reducible apply Sz.drewN) | (with_reducible apply Sz.bytesW) | (with_reducible assumption) | (with_reducible exact Sz.base _)))⟩
  case round =>
    clear HH
    obtain ⟨k, hk, rfl, HR, HP⟩ := hrel
    have H := HP.out
    have F := H.facts; simp only [Facts, NeF, box, row, reg, cellsF, ne_eq, true_and, and_true, Nat.reduceAdd, Nat.zero_add] at F
    by_cases hlt : k < n1
    · skip
      obtain ⟨b, off, rfl, hb⟩ := Rd.atC encCert_len hr0 hn0 (by omega)
      obtain ⟨b1, off1, rfl, hb1⟩ := Rd.atC encCertKey_len hr1 hn1 (by omega)
      have hcs : ∀ (W : World) (L : List Ent), Hp w W L → _ := fun W L h => Rd.certAt hr0 hn0 (k := k) (by omega) rfl W h.b
      have hks : ∀ (W : World) (L : List Ent), Hp w W L → _ := fun W L h => Rd.keyAt hr1 hn1 (k := k) (by omega) rfl W h.b
      have hls : (cs[k]'(by omega)).owner.size ≤ maxLen := hsz _ (List.getElem_mem _)
      have hst : pileStep cs ks k = (certOk (cs[k]'(by omega)) && ((decide (k = 0) || decide (((cs[k - 1]?.map (·.ser)).getD 0) < (cs[k]'(by omega)).ser)) && (((ks[k]'(by omega)).ser == (cs[k]'(by omega)).ser) && keyOk (ks[k]'(by omega)).key))) := by
        unfold pileStep; rw [List.getElem?_eq_getElem (by omega : k < cs.length), List.getElem?_eq_getElem (by omega : k < ks.length)]
      have hk1 : (k : Int) < (n1 : Int) := by omega
      have hk0 : (0 : Int) ≤ (k : Int) := by omega
      generalize (cs[k]'(by omega)) = c at *
      generalize (ks[k]'(by omega)) = x at *
      cases h1 : certOk c with
      | false =>
        have HN : Hid (pileOk cs ks ds = false) := pileOk_d (by rw [hn0]; exact pileRise_no hlt (by rw [hst]; simp [h1]))
        (try clear hkz)
        have HCS := Lib.hid hcs; clear hcs
        have HKS := Lib.hid hks; clear hks
        obtain ⟨e0, e1, e2, e3, e4, e5, e6, e7⟩ := HCS.out _ _ H
        obtain ⟨ser, owner, iss, from_, to_, ca, depth, mark⟩ := c
        obtain ⟨xs, xk⟩ := x
        dsimp only at e0 e1 e2 e3 e4 e5 e6 e7 hls
        have HST := Lib.hid hst; clear hst
        have hbw : b < wr.heap.size := Nat.lt_of_lt_of_le hb H.b.size
        have hbw1 : b1 < wr.heap.size := Nat.lt_of_lt_of_le hb1 H.b.size
        have hbe : ¬ b = wr.heap.size ∧ ¬ wr.heap.size = b := by omega
        have hbe1 : ¬ b1 = wr.heap.size ∧ ¬ wr.heap.size = b1 := by omega
        go_wp2_with fail
        clear e0 e1 e2 e3 e4 e5 e6 e7
        replace H := H.alloc (t := 30) (cs := [.int .i64 ser, .string owner, .int .i64 iss, .int .i64 from_, .int .i64 to_, .bool ca, .int .i64 depth, .int .i64 mark]) (Sz.base wr)
        clear F
        (refine wp_region_quiet (C := fun W => Hp w W [box wr.heap.size 30 [.int .i64 ser, .string owner, .int .i64 iss, .int .i64 from_, .int .i64 to_, .bool ca, .int .i64 depth, .int .i64 mark], box w.heap.size 28 [.slice (some ⟨b, off, none⟩) n1 c0, .slice (some ⟨b1, off1, none⟩) n1 c1, .slice A2 n2 c2]]) (by kernel_rfl) (by kernel_rfl) (by show Hp _ (World.drew _) _; exact (by repeat (first | (with_reducible exact H) | (with_reducible apply Hp.alloc) | (with_reducible apply Hp.set) | (with_reducible apply Hp.drew) | (with_reducible apply Hp.drewN) | (with_reducible apply Hp.bytesW) | (with_reducible exact Upd.here) | (with_reducible exact Upd.hereR) | (with_reducible apply Upd.there) | (with_reducible apply Sz.alloc) | (with_reducible apply Sz.set) | (with_reducible apply Sz.drew) | (with_reducible apply Sz.drewN) | (with_reducible apply Sz.bytesW) | (with_reducible assumption) | (with_reducible exact Sz.base _)))) ?_; (repeat (first | go_big_quiet_skip | (refine BigFrame.wpQuiet_want (by rfl) (fun K hK => ?_); unfold Oper.quiet; apply Exists.intro; refine ⟨fun W hW => ?_, hK _ ?_⟩; (focus (have G := hW.facts; simp only [Facts, NeF, box, row, reg, cellsF, ne_eq, true_and, and_true, Nat.reduceAdd, Nat.zero_add] at G; obtain ⟨k0, k1⟩ := HKS.out _ _ hW; (try have q0 := HQS.out _ _ hW); go_simp; first | rfl | (first | (go_at_call 30; refine (isCert_any ⟨ser, owner, iss, from_, to_, ca, depth, mark⟩ _ hls (hml.on hW.b)).mono ?_; rintro e w1 ⟨rfl, hb1⟩; rw [h1]; exact ⟨rfl, hW.step hb1⟩) | (go_at_call 31; refine (isKey_any _ _).mono ?_; rintro e w1 ⟨rfl, rfl⟩; rw [h5]; exact ⟨rfl, hW⟩)))); clear hK K; simp only [Act.put, List.setIfInBounds_toArray, List.set_cons_zero, List.set_cons_succ]))); refine wpQuiet_nil ?_; intro wq H; have F := H.facts; simp only [Facts, NeF, box, row, reg, cellsF, ne_eq, true_and, and_true, Nat.reduceAdd, Nat.zero_add] at F)
        all_goals
          go_wp2_with fail
          go_ret
          exact ⟨by rw [HN.out]; rfl, Hp.b (by repeat (first | (with_reducible exact H) | (with_reducible apply Hp.alloc) | (with_reducible apply Hp.set) | (with_reducible apply Hp.drew) | (with_reducible apply Hp.drewN) | (with_reducible apply Hp.bytesW) | (with_reducible exact Upd.here) | (with_reducible exact Upd.hereR) | (with_reducible apply Upd.there) | (with_reducible apply Sz.alloc) | (with_reducible apply Sz.set) | (with_reducible apply Sz.drew) | (with_reducible apply Sz.drewN) | (with_reducible apply Sz.bytesW) | (with_reducible assumption) | (with_reducible exact Sz.base _)))⟩
      | true =>
        by_cases hkz : k = 0
        · have h2 : decide (0 < k) = false := by simp; omega
          have h2i : decide ((0 : Int) < (k : Int)) = false := by simp; omega
          by_cases h4 : ¬ x.ser = c.ser
          · have h4i : (x.ser != c.ser) = true := by simpa using h4
            have h4d : decide (x.ser = c.ser) = false := decide_eq_false h4
            have HN : Hid (pileOk cs ks ds = false) := pileOk_d (by rw [hn0]; exact pileRise_no hlt (by rw [hst]; simp [h4]))
            (try clear hkz)
            have HCS := Lib.hid hcs; clear hcs
            have HKS := Lib.hid hks; clear hks
            obtain ⟨e0, e1, e2, e3, e4, e5, e6, e7⟩ := HCS.out _ _ H
            obtain ⟨ser, owner, iss, from_, to_, ca, depth, mark⟩ := c
            obtain ⟨xs, xk⟩ := x
            dsimp only at e0 e1 e2 e3 e4 e5 e6 e7 hls
            have HST := Lib.hid hst; clear hst
            have hbw : b < wr.heap.size := Nat.lt_of_lt_of_le hb H.b.size
            have hbw1 : b1 < wr.heap.size := Nat.lt_of_lt_of_le hb1 H.b.size
            have hbe : ¬ b = wr.heap.size ∧ ¬ wr.heap.size = b := by omega
            have hbe1 : ¬ b1 = wr.heap.size ∧ ¬ wr.heap.size = b1 := by omega
            go_wp2_with fail
            clear e0 e1 e2 e3 e4 e5 e6 e7
            replace H := H.alloc (t := 30) (cs := [.int .i64 ser, .string owner, .int .i64 iss, .int .i64 from_, .int .i64 to_, .bool ca, .int .i64 depth, .int .i64 mark]) (Sz.base wr)
            clear F
            (refine wp_region_quiet (C := fun W => Hp w W [box wr.heap.size 30 [.int .i64 ser, .string owner, .int .i64 iss, .int .i64 from_, .int .i64 to_, .bool ca, .int .i64 depth, .int .i64 mark], box w.heap.size 28 [.slice (some ⟨b, off, none⟩) n1 c0, .slice (some ⟨b1, off1, none⟩) n1 c1, .slice A2 n2 c2]]) (by kernel_rfl) (by kernel_rfl) (by show Hp _ (World.drew _) _; exact (by repeat (first | (with_reducible exact H) | (with_reducible apply Hp.alloc) | (with_reducible apply Hp.set) | (with_reducible apply Hp.drew) | (with_reducible apply Hp.drewN) | (with_reducible apply Hp.bytesW) | (with_reducible exact Upd.here) | (with_reducible exact Upd.hereR) | (with_reducible apply Upd.there) | (with_reducible apply Sz.alloc) | (with_reducible apply Sz.set) | (with_reducible apply Sz.drew) | (with_reducible apply Sz.drewN) | (with_reducible apply Sz.bytesW) | (with_reducible assumption) | (with_reducible exact Sz.base _)))) ?_; (repeat (first | go_big_quiet_skip | (refine BigFrame.wpQuiet_want (by rfl) (fun K hK => ?_); unfold Oper.quiet; apply Exists.intro; refine ⟨fun W hW => ?_, hK _ ?_⟩; (focus (have G := hW.facts; simp only [Facts, NeF, box, row, reg, cellsF, ne_eq, true_and, and_true, Nat.reduceAdd, Nat.zero_add] at G; obtain ⟨k0, k1⟩ := HKS.out _ _ hW; (try have q0 := HQS.out _ _ hW); go_simp; first | rfl | (first | (go_at_call 30; refine (isCert_any ⟨ser, owner, iss, from_, to_, ca, depth, mark⟩ _ hls (hml.on hW.b)).mono ?_; rintro e w1 ⟨rfl, hb1⟩; rw [h1]; exact ⟨rfl, hW.step hb1⟩) | (go_at_call 31; refine (isKey_any _ _).mono ?_; rintro e w1 ⟨rfl, rfl⟩; rw [h5]; exact ⟨rfl, hW⟩)))); clear hK K; simp only [Act.put, List.setIfInBounds_toArray, List.set_cons_zero, List.set_cons_succ]))); refine wpQuiet_nil ?_; intro wq H; have F := H.facts; simp only [Facts, NeF, box, row, reg, cellsF, ne_eq, true_and, and_true, Nat.reduceAdd, Nat.zero_add] at F)
            all_goals
              go_wp2_with fail
              go_ret
              exact ⟨by rw [HN.out]; rfl, Hp.b (by repeat (first | (with_reducible exact H) | (with_reducible apply Hp.alloc) | (with_reducible apply Hp.set) | (with_reducible apply Hp.drew) | (with_reducible apply Hp.drewN) | (with_reducible apply Hp.bytesW) | (with_reducible exact Upd.here) | (with_reducible exact Upd.hereR) | (with_reducible apply Upd.there) | (with_reducible apply Sz.alloc) | (with_reducible apply Sz.set) | (with_reducible apply Sz.drew) | (with_reducible apply Sz.drewN) | (with_reducible apply Sz.bytesW) | (with_reducible assumption) | (with_reducible exact Sz.base _)))⟩
          replace h4 : x.ser = c.ser := by simpa using h4
          have h4i : (x.ser != c.ser) = false := by simpa using h4
          have h4d : decide (x.ser = c.ser) = true := decide_eq_true h4
          cases h5 : inR x.key 0 1099511627776 with
          | false =>
            have HN : Hid (pileOk cs ks ds = false) := pileOk_d (by rw [hn0]; exact pileRise_no hlt (by rw [hst]; simp [keyOk, h5]))
            (try clear hkz)
            have HCS := Lib.hid hcs; clear hcs
            have HKS := Lib.hid hks; clear hks
            obtain ⟨e0, e1, e2, e3, e4, e5, e6, e7⟩ := HCS.out _ _ H
            obtain ⟨ser, owner, iss, from_, to_, ca, depth, mark⟩ := c
            obtain ⟨xs, xk⟩ := x
            dsimp only at e0 e1 e2 e3 e4 e5 e6 e7 hls
            have HST := Lib.hid hst; clear hst
            have hbw : b < wr.heap.size := Nat.lt_of_lt_of_le hb H.b.size
            have hbw1 : b1 < wr.heap.size := Nat.lt_of_lt_of_le hb1 H.b.size
            have hbe : ¬ b = wr.heap.size ∧ ¬ wr.heap.size = b := by omega
            have hbe1 : ¬ b1 = wr.heap.size ∧ ¬ wr.heap.size = b1 := by omega
            go_wp2_with fail
            clear e0 e1 e2 e3 e4 e5 e6 e7
            replace H := H.alloc (t := 30) (cs := [.int .i64 ser, .string owner, .int .i64 iss, .int .i64 from_, .int .i64 to_, .bool ca, .int .i64 depth, .int .i64 mark]) (Sz.base wr)
            clear F
            (refine wp_region_quiet (C := fun W => Hp w W [box wr.heap.size 30 [.int .i64 ser, .string owner, .int .i64 iss, .int .i64 from_, .int .i64 to_, .bool ca, .int .i64 depth, .int .i64 mark], box w.heap.size 28 [.slice (some ⟨b, off, none⟩) n1 c0, .slice (some ⟨b1, off1, none⟩) n1 c1, .slice A2 n2 c2]]) (by kernel_rfl) (by kernel_rfl) (by show Hp _ (World.drew _) _; exact (by repeat (first | (with_reducible exact H) | (with_reducible apply Hp.alloc) | (with_reducible apply Hp.set) | (with_reducible apply Hp.drew) | (with_reducible apply Hp.drewN) | (with_reducible apply Hp.bytesW) | (with_reducible exact Upd.here) | (with_reducible exact Upd.hereR) | (with_reducible apply Upd.there) | (with_reducible apply Sz.alloc) | (with_reducible apply Sz.set) | (with_reducible apply Sz.drew) | (with_reducible apply Sz.drewN) | (with_reducible apply Sz.bytesW) | (with_reducible assumption) | (with_reducible exact Sz.base _)))) ?_; (repeat (first | go_big_quiet_skip | (refine BigFrame.wpQuiet_want (by rfl) (fun K hK => ?_); unfold Oper.quiet; apply Exists.intro; refine ⟨fun W hW => ?_, hK _ ?_⟩; (focus (have G := hW.facts; simp only [Facts, NeF, box, row, reg, cellsF, ne_eq, true_and, and_true, Nat.reduceAdd, Nat.zero_add] at G; obtain ⟨k0, k1⟩ := HKS.out _ _ hW; (try have q0 := HQS.out _ _ hW); go_simp; first | rfl | (first | (go_at_call 30; refine (isCert_any ⟨ser, owner, iss, from_, to_, ca, depth, mark⟩ _ hls (hml.on hW.b)).mono ?_; rintro e w1 ⟨rfl, hb1⟩; rw [h1]; exact ⟨rfl, hW.step hb1⟩) | (go_at_call 31; refine (isKey_any _ _).mono ?_; rintro e w1 ⟨rfl, rfl⟩; rw [h5]; exact ⟨rfl, hW⟩)))); clear hK K; simp only [Act.put, List.setIfInBounds_toArray, List.set_cons_zero, List.set_cons_succ]))); refine wpQuiet_nil ?_; intro wq H; have F := H.facts; simp only [Facts, NeF, box, row, reg, cellsF, ne_eq, true_and, and_true, Nat.reduceAdd, Nat.zero_add] at F)
            all_goals
              go_wp2_with fail
              go_ret
              exact ⟨by rw [HN.out]; rfl, Hp.b (by repeat (first | (with_reducible exact H) | (with_reducible apply Hp.alloc) | (with_reducible apply Hp.set) | (with_reducible apply Hp.drew) | (with_reducible apply Hp.drewN) | (with_reducible apply Hp.bytesW) | (with_reducible exact Upd.here) | (with_reducible exact Upd.hereR) | (with_reducible apply Upd.there) | (with_reducible apply Sz.alloc) | (with_reducible apply Sz.set) | (with_reducible apply Sz.drew) | (with_reducible apply Sz.drewN) | (with_reducible apply Sz.bytesW) | (with_reducible assumption) | (with_reducible exact Sz.base _)))⟩
          | true =>
            have HN : Hid (pileRise cs ks (k + 1) = true) := pileRise_snoc HR.out (by rw [hst, h1]; simp [keyOk, h4, h5, hkz])
            (try clear hkz)
            have HCS := Lib.hid hcs; clear hcs
            have HKS := Lib.hid hks; clear hks
            obtain ⟨e0, e1, e2, e3, e4, e5, e6, e7⟩ := HCS.out _ _ H
            obtain ⟨ser, owner, iss, from_, to_, ca, depth, mark⟩ := c
            obtain ⟨xs, xk⟩ := x
            dsimp only at e0 e1 e2 e3 e4 e5 e6 e7 hls
            have HST := Lib.hid hst; clear hst
            have hbw : b < wr.heap.size := Nat.lt_of_lt_of_le hb H.b.size
            have hbw1 : b1 < wr.heap.size := Nat.lt_of_lt_of_le hb1 H.b.size
            have hbe : ¬ b = wr.heap.size ∧ ¬ wr.heap.size = b := by omega
            have hbe1 : ¬ b1 = wr.heap.size ∧ ¬ wr.heap.size = b1 := by omega
            go_wp2_with fail
            clear e0 e1 e2 e3 e4 e5 e6 e7
            replace H := H.alloc (t := 30) (cs := [.int .i64 ser, .string owner, .int .i64 iss, .int .i64 from_, .int .i64 to_, .bool ca, .int .i64 depth, .int .i64 mark]) (Sz.base wr)
            clear F
            (refine wp_region_quiet (C := fun W => Hp w W [box wr.heap.size 30 [.int .i64 ser, .string owner, .int .i64 iss, .int .i64 from_, .int .i64 to_, .bool ca, .int .i64 depth, .int .i64 mark], box w.heap.size 28 [.slice (some ⟨b, off, none⟩) n1 c0, .slice (some ⟨b1, off1, none⟩) n1 c1, .slice A2 n2 c2]]) (by kernel_rfl) (by kernel_rfl) (by show Hp _ (World.drew _) _; exact (by repeat (first | (with_reducible exact H) | (with_reducible apply Hp.alloc) | (with_reducible apply Hp.set) | (with_reducible apply Hp.drew) | (with_reducible apply Hp.drewN) | (with_reducible apply Hp.bytesW) | (with_reducible exact Upd.here) | (with_reducible exact Upd.hereR) | (with_reducible apply Upd.there) | (with_reducible apply Sz.alloc) | (with_reducible apply Sz.set) | (with_reducible apply Sz.drew) | (with_reducible apply Sz.drewN) | (with_reducible apply Sz.bytesW) | (with_reducible assumption) | (with_reducible exact Sz.base _)))) ?_; (repeat (first | go_big_quiet_skip | (refine BigFrame.wpQuiet_want (by rfl) (fun K hK => ?_); unfold Oper.quiet; apply Exists.intro; refine ⟨fun W hW => ?_, hK _ ?_⟩; (focus (have G := hW.facts; simp only [Facts, NeF, box, row, reg, cellsF, ne_eq, true_and, and_true, Nat.reduceAdd, Nat.zero_add] at G; obtain ⟨k0, k1⟩ := HKS.out _ _ hW; (try have q0 := HQS.out _ _ hW); go_simp; first | rfl | (first | (go_at_call 30; refine (isCert_any ⟨ser, owner, iss, from_, to_, ca, depth, mark⟩ _ hls (hml.on hW.b)).mono ?_; rintro e w1 ⟨rfl, hb1⟩; rw [h1]; exact ⟨rfl, hW.step hb1⟩) | (go_at_call 31; refine (isKey_any _ _).mono ?_; rintro e w1 ⟨rfl, rfl⟩; rw [h5]; exact ⟨rfl, hW⟩)))); clear hK K; simp only [Act.put, List.setIfInBounds_toArray, List.set_cons_zero, List.set_cons_succ]))); refine wpQuiet_nil ?_; intro wq H; have F := H.facts; simp only [Facts, NeF, box, row, reg, cellsF, ne_eq, true_and, and_true, Nat.reduceAdd, Nat.zero_add] at F)
            all_goals
              go_wp2_with fail
              go_roundw
              case rel => exact ⟨k + 1, by omega, by go_num, HN, Lib.hid (by refine Hp.sel (by repeat (first | (with_reducible exact H) | (with_reducible apply Hp.alloc) | (with_reducible apply Hp.set) | (with_reducible apply Hp.drew) | (with_reducible apply Hp.drewN) | (with_reducible apply Hp.bytesW) | (with_reducible exact Upd.here) | (with_reducible exact Upd.hereR) | (with_reducible apply Upd.there) | (with_reducible apply Sz.alloc) | (with_reducible apply Sz.set) | (with_reducible apply Sz.drew) | (with_reducible apply Sz.drewN) | (with_reducible apply Sz.bytesW) | (with_reducible assumption) | (with_reducible exact Sz.base _))) ?_; (try simp only [List.set_cons_zero, List.set_cons_succ]); exact (by repeat (first | (with_reducible exact Sel.nil) | (with_reducible apply Sel.cons) | (with_reducible exact Del.here) | (with_reducible apply Del.there))))⟩
              case measure => simp [intOf]; omega
        · skip
          have h2 : decide (0 < k) = true := by simp; omega
          have h2i : decide ((0 : Int) < (k : Int)) = true := by simp; omega
          have hw1 : IntKind.i64.wrap ((k : Int) - 1) = (k : Int) - 1 := by rw [IntKind.wrap_i64]; omega
          have hp1 : (k : Int) - 1 < (n1 : Int) := by omega
          have hp0 : (0 : Int) ≤ (k : Int) - 1 := by omega
          have hp2 : (1 : Int) ≤ (k : Int) := by omega
          have hqs : ∀ (W : World) (L : List Ent), Hp w W L → W.cell? ⟨b, off + (k - 1) * 8, none⟩ = some (.int .i64 (cs[k - 1]'(by omega)).ser) := fun W L h => (Rd.certAt hr0 hn0 (k := k - 1) (by omega) rfl W h.b).1
          have hpe : (cs[k - 1]?.map (·.ser)).getD 0 = (cs[k - 1]'(by omega)).ser := by rw [List.getElem?_eq_getElem (by omega : k - 1 < cs.length)]; rfl
          rw [hpe] at hst
          clear hpe
          generalize (cs[k - 1]'(by omega)).ser = q at *
          have HQS := Lib.hid hqs; clear hqs
          by_cases h3 : c.ser ≤ q
          · have h3b : decide (c.ser ≤ q) = true := decide_eq_true h3
            have HN : Hid (pileOk cs ks ds = false) := pileOk_d (by rw [hn0]; exact pileRise_no hlt (by rw [hst]; simp [hkz]; omega))
            (try clear hkz)
            have HCS := Lib.hid hcs; clear hcs
            have HKS := Lib.hid hks; clear hks
            obtain ⟨e0, e1, e2, e3, e4, e5, e6, e7⟩ := HCS.out _ _ H
            obtain ⟨ser, owner, iss, from_, to_, ca, depth, mark⟩ := c
            obtain ⟨xs, xk⟩ := x
            dsimp only at e0 e1 e2 e3 e4 e5 e6 e7 hls
            have HST := Lib.hid hst; clear hst
            have hbw : b < wr.heap.size := Nat.lt_of_lt_of_le hb H.b.size
            have hbw1 : b1 < wr.heap.size := Nat.lt_of_lt_of_le hb1 H.b.size
            have hbe : ¬ b = wr.heap.size ∧ ¬ wr.heap.size = b := by omega
            have hbe1 : ¬ b1 = wr.heap.size ∧ ¬ wr.heap.size = b1 := by omega
            go_wp2_with fail
            clear e0 e1 e2 e3 e4 e5 e6 e7
            replace H := H.alloc (t := 30) (cs := [.int .i64 ser, .string owner, .int .i64 iss, .int .i64 from_, .int .i64 to_, .bool ca, .int .i64 depth, .int .i64 mark]) (Sz.base wr)
            clear F
            (refine wp_region_quiet (C := fun W => Hp w W [box wr.heap.size 30 [.int .i64 ser, .string owner, .int .i64 iss, .int .i64 from_, .int .i64 to_, .bool ca, .int .i64 depth, .int .i64 mark], box w.heap.size 28 [.slice (some ⟨b, off, none⟩) n1 c0, .slice (some ⟨b1, off1, none⟩) n1 c1, .slice A2 n2 c2]]) (by kernel_rfl) (by kernel_rfl) (by show Hp _ (World.drew _) _; exact (by repeat (first | (with_reducible exact H) | (with_reducible apply Hp.alloc) | (with_reducible apply Hp.set) | (with_reducible apply Hp.drew) | (with_reducible apply Hp.drewN) | (with_reducible apply Hp.bytesW) | (with_reducible exact Upd.here) | (with_reducible exact Upd.hereR) | (with_reducible apply Upd.there) | (with_reducible apply Sz.alloc) | (with_reducible apply Sz.set) | (with_reducible apply Sz.drew) | (with_reducible apply Sz.drewN) | (with_reducible apply Sz.bytesW) | (with_reducible assumption) | (with_reducible exact Sz.base _)))) ?_; (repeat (first | go_big_quiet_skip | (refine BigFrame.wpQuiet_want (by rfl) (fun K hK => ?_); unfold Oper.quiet; apply Exists.intro; refine ⟨fun W hW => ?_, hK _ ?_⟩; (focus (have G := hW.facts; simp only [Facts, NeF, box, row, reg, cellsF, ne_eq, true_and, and_true, Nat.reduceAdd, Nat.zero_add] at G; obtain ⟨k0, k1⟩ := HKS.out _ _ hW; (try have q0 := HQS.out _ _ hW); go_simp; first | rfl | (first | (go_at_call 30; refine (isCert_any ⟨ser, owner, iss, from_, to_, ca, depth, mark⟩ _ hls (hml.on hW.b)).mono ?_; rintro e w1 ⟨rfl, hb1⟩; rw [h1]; exact ⟨rfl, hW.step hb1⟩) | (go_at_call 31; refine (isKey_any _ _).mono ?_; rintro e w1 ⟨rfl, rfl⟩; rw [h5]; exact ⟨rfl, hW⟩)))); clear hK K; simp only [Act.put, List.setIfInBounds_toArray, List.set_cons_zero, List.set_cons_succ]))); refine wpQuiet_nil ?_; intro wq H; have F := H.facts; simp only [Facts, NeF, box, row, reg, cellsF, ne_eq, true_and, and_true, Nat.reduceAdd, Nat.zero_add] at F)
            all_goals
              go_wp2_with fail
              go_ret
              exact ⟨by rw [HN.out]; rfl, Hp.b (by repeat (first | (with_reducible exact H) | (with_reducible apply Hp.alloc) | (with_reducible apply Hp.set) | (with_reducible apply Hp.drew) | (with_reducible apply Hp.drewN) | (with_reducible apply Hp.bytesW) | (with_reducible exact Upd.here) | (with_reducible exact Upd.hereR) | (with_reducible apply Upd.there) | (with_reducible apply Sz.alloc) | (with_reducible apply Sz.set) | (with_reducible apply Sz.drew) | (with_reducible apply Sz.drewN) | (with_reducible apply Sz.bytesW) | (with_reducible assumption) | (with_reducible exact Sz.base _)))⟩
          have h3b : decide (c.ser ≤ q) = false := decide_eq_false h3
          by_cases h4 : ¬ x.ser = c.ser
          · have h4i : (x.ser != c.ser) = true := by simpa using h4
            have h4d : decide (x.ser = c.ser) = false := decide_eq_false h4
            have HN : Hid (pileOk cs ks ds = false) := pileOk_d (by rw [hn0]; exact pileRise_no hlt (by rw [hst]; simp [h4]))
            (try clear hkz)
            have HCS := Lib.hid hcs; clear hcs
            have HKS := Lib.hid hks; clear hks
            obtain ⟨e0, e1, e2, e3, e4, e5, e6, e7⟩ := HCS.out _ _ H
            obtain ⟨ser, owner, iss, from_, to_, ca, depth, mark⟩ := c
            obtain ⟨xs, xk⟩ := x
            dsimp only at e0 e1 e2 e3 e4 e5 e6 e7 hls
            have HST := Lib.hid hst; clear hst
            have hbw : b < wr.heap.size := Nat.lt_of_lt_of_le hb H.b.size
            have hbw1 : b1 < wr.heap.size := Nat.lt_of_lt_of_le hb1 H.b.size
            have hbe : ¬ b = wr.heap.size ∧ ¬ wr.heap.size = b := by omega
            have hbe1 : ¬ b1 = wr.heap.size ∧ ¬ wr.heap.size = b1 := by omega
            go_wp2_with fail
            clear e0 e1 e2 e3 e4 e5 e6 e7
            replace H := H.alloc (t := 30) (cs := [.int .i64 ser, .string owner, .int .i64 iss, .int .i64 from_, .int .i64 to_, .bool ca, .int .i64 depth, .int .i64 mark]) (Sz.base wr)
            clear F
            (refine wp_region_quiet (C := fun W => Hp w W [box wr.heap.size 30 [.int .i64 ser, .string owner, .int .i64 iss, .int .i64 from_, .int .i64 to_, .bool ca, .int .i64 depth, .int .i64 mark], box w.heap.size 28 [.slice (some ⟨b, off, none⟩) n1 c0, .slice (some ⟨b1, off1, none⟩) n1 c1, .slice A2 n2 c2]]) (by kernel_rfl) (by kernel_rfl) (by show Hp _ (World.drew _) _; exact (by repeat (first | (with_reducible exact H) | (with_reducible apply Hp.alloc) | (with_reducible apply Hp.set) | (with_reducible apply Hp.drew) | (with_reducible apply Hp.drewN) | (with_reducible apply Hp.bytesW) | (with_reducible exact Upd.here) | (with_reducible exact Upd.hereR) | (with_reducible apply Upd.there) | (with_reducible apply Sz.alloc) | (with_reducible apply Sz.set) | (with_reducible apply Sz.drew) | (with_reducible apply Sz.drewN) | (with_reducible apply Sz.bytesW) | (with_reducible assumption) | (with_reducible exact Sz.base _)))) ?_; (repeat (first | go_big_quiet_skip | (refine BigFrame.wpQuiet_want (by rfl) (fun K hK => ?_); unfold Oper.quiet; apply Exists.intro; refine ⟨fun W hW => ?_, hK _ ?_⟩; (focus (have G := hW.facts; simp only [Facts, NeF, box, row, reg, cellsF, ne_eq, true_and, and_true, Nat.reduceAdd, Nat.zero_add] at G; obtain ⟨k0, k1⟩ := HKS.out _ _ hW; (try have q0 := HQS.out _ _ hW); go_simp; first | rfl | (first | (go_at_call 30; refine (isCert_any ⟨ser, owner, iss, from_, to_, ca, depth, mark⟩ _ hls (hml.on hW.b)).mono ?_; rintro e w1 ⟨rfl, hb1⟩; rw [h1]; exact ⟨rfl, hW.step hb1⟩) | (go_at_call 31; refine (isKey_any _ _).mono ?_; rintro e w1 ⟨rfl, rfl⟩; rw [h5]; exact ⟨rfl, hW⟩)))); clear hK K; simp only [Act.put, List.setIfInBounds_toArray, List.set_cons_zero, List.set_cons_succ]))); refine wpQuiet_nil ?_; intro wq H; have F := H.facts; simp only [Facts, NeF, box, row, reg, cellsF, ne_eq, true_and, and_true, Nat.reduceAdd, Nat.zero_add] at F)
            all_goals
              go_wp2_with fail
              go_ret
              exact ⟨by rw [HN.out]; rfl, Hp.b (by repeat (first | (with_reducible exact H) | (with_reducible apply Hp.alloc) | (with_reducible apply Hp.set) | (with_reducible apply Hp.drew) | (with_reducible apply Hp.drewN) | (with_reducible apply Hp.bytesW) | (with_reducible exact Upd.here) | (with_reducible exact Upd.hereR) | (with_reducible apply Upd.there) | (with_reducible apply Sz.alloc) | (with_reducible apply Sz.set) | (with_reducible apply Sz.drew) | (with_reducible apply Sz.drewN) | (with_reducible apply Sz.bytesW) | (with_reducible assumption) | (with_reducible exact Sz.base _)))⟩
          replace h4 : x.ser = c.ser := by simpa using h4
          have h4i : (x.ser != c.ser) = false := by simpa using h4
          have h4d : decide (x.ser = c.ser) = true := decide_eq_true h4
          cases h5 : inR x.key 0 1099511627776 with
          | false =>
            have HN : Hid (pileOk cs ks ds = false) := pileOk_d (by rw [hn0]; exact pileRise_no hlt (by rw [hst]; simp [keyOk, h5]))
            (try clear hkz)
            have HCS := Lib.hid hcs; clear hcs
            have HKS := Lib.hid hks; clear hks
            obtain ⟨e0, e1, e2, e3, e4, e5, e6, e7⟩ := HCS.out _ _ H
            obtain ⟨ser, owner, iss, from_, to_, ca, depth, mark⟩ := c
            obtain ⟨xs, xk⟩ := x
            dsimp only at e0 e1 e2 e3 e4 e5 e6 e7 hls
            have HST := Lib.hid hst; clear hst
            have hbw : b < wr.heap.size := Nat.lt_of_lt_of_le hb H.b.size
            have hbw1 : b1 < wr.heap.size := Nat.lt_of_lt_of_le hb1 H.b.size
            have hbe : ¬ b = wr.heap.size ∧ ¬ wr.heap.size = b := by omega
            have hbe1 : ¬ b1 = wr.heap.size ∧ ¬ wr.heap.size = b1 := by omega
            go_wp2_with fail
            clear e0 e1 e2 e3 e4 e5 e6 e7
            replace H := H.alloc (t := 30) (cs := [.int .i64 ser, .string owner, .int .i64 iss, .int .i64 from_, .int .i64 to_, .bool ca, .int .i64 depth, .int .i64 mark]) (Sz.base wr)
            clear F
            (refine wp_region_quiet (C := fun W => Hp w W [box wr.heap.size 30 [.int .i64 ser, .string owner, .int .i64 iss, .int .i64 from_, .int .i64 to_, .bool ca, .int .i64 depth, .int .i64 mark], box w.heap.size 28 [.slice (some ⟨b, off, none⟩) n1 c0, .slice (some ⟨b1, off1, none⟩) n1 c1, .slice A2 n2 c2]]) (by kernel_rfl) (by kernel_rfl) (by show Hp _ (World.drew _) _; exact (by repeat (first | (with_reducible exact H) | (with_reducible apply Hp.alloc) | (with_reducible apply Hp.set) | (with_reducible apply Hp.drew) | (with_reducible apply Hp.drewN) | (with_reducible apply Hp.bytesW) | (with_reducible exact Upd.here) | (with_reducible exact Upd.hereR) | (with_reducible apply Upd.there) | (with_reducible apply Sz.alloc) | (with_reducible apply Sz.set) | (with_reducible apply Sz.drew) | (with_reducible apply Sz.drewN) | (with_reducible apply Sz.bytesW) | (with_reducible assumption) | (with_reducible exact Sz.base _)))) ?_; (repeat (first | go_big_quiet_skip | (refine BigFrame.wpQuiet_want (by rfl) (fun K hK => ?_); unfold Oper.quiet; apply Exists.intro; refine ⟨fun W hW => ?_, hK _ ?_⟩; (focus (have G := hW.facts; simp only [Facts, NeF, box, row, reg, cellsF, ne_eq, true_and, and_true, Nat.reduceAdd, Nat.zero_add] at G; obtain ⟨k0, k1⟩ := HKS.out _ _ hW; (try have q0 := HQS.out _ _ hW); go_simp; first | rfl | (first | (go_at_call 30; refine (isCert_any ⟨ser, owner, iss, from_, to_, ca, depth, mark⟩ _ hls (hml.on hW.b)).mono ?_; rintro e w1 ⟨rfl, hb1⟩; rw [h1]; exact ⟨rfl, hW.step hb1⟩) | (go_at_call 31; refine (isKey_any _ _).mono ?_; rintro e w1 ⟨rfl, rfl⟩; rw [h5]; exact ⟨rfl, hW⟩)))); clear hK K; simp only [Act.put, List.setIfInBounds_toArray, List.set_cons_zero, List.set_cons_succ]))); refine wpQuiet_nil ?_; intro wq H; have F := H.facts; simp only [Facts, NeF, box, row, reg, cellsF, ne_eq, true_and, and_true, Nat.reduceAdd, Nat.zero_add] at F)
            all_goals
              go_wp2_with fail
              go_ret
              exact ⟨by rw [HN.out]; rfl, Hp.b (by repeat (first | (with_reducible exact H) | (with_reducible apply Hp.alloc) | (with_reducible apply Hp.set) | (with_reducible apply Hp.drew) | (with_reducible apply Hp.drewN) | (with_reducible apply Hp.bytesW) | (with_reducible exact Upd.here) | (with_reducible exact Upd.hereR) | (with_reducible apply Upd.there) | (with_reducible apply Sz.alloc) | (with_reducible apply Sz.set) | (with_reducible apply Sz.drew) | (with_reducible apply Sz.drewN) | (with_reducible apply Sz.bytesW) | (with_reducible assumption) | (with_reducible exact Sz.base _)))⟩
          | true =>
            have HN : Hid (pileRise cs ks (k + 1) = true) := pileRise_snoc HR.out (by rw [hst, h1]; simp [keyOk, h4, h5]; omega)
            (try clear hkz)
            have HCS := Lib.hid hcs; clear hcs
            have HKS := Lib.hid hks; clear hks
            obtain ⟨e0, e1, e2, e3, e4, e5, e6, e7⟩ := HCS.out _ _ H
            obtain ⟨ser, owner, iss, from_, to_, ca, depth, mark⟩ := c
            obtain ⟨xs, xk⟩ := x
            dsimp only at e0 e1 e2 e3 e4 e5 e6 e7 hls
            have HST := Lib.hid hst; clear hst
            have hbw : b < wr.heap.size := Nat.lt_of_lt_of_le hb H.b.size
            have hbw1 : b1 < wr.heap.size := Nat.lt_of_lt_of_le hb1 H.b.size
            have hbe : ¬ b = wr.heap.size ∧ ¬ wr.heap.size = b := by omega
            have hbe1 : ¬ b1 = wr.heap.size ∧ ¬ wr.heap.size = b1 := by omega
            go_wp2_with fail
            clear e0 e1 e2 e3 e4 e5 e6 e7
            replace H := H.alloc (t := 30) (cs := [.int .i64 ser, .string owner, .int .i64 iss, .int .i64 from_, .int .i64 to_, .bool ca, .int .i64 depth, .int .i64 mark]) (Sz.base wr)
            clear F
            (refine wp_region_quiet (C := fun W => Hp w W [box wr.heap.size 30 [.int .i64 ser, .string owner, .int .i64 iss, .int .i64 from_, .int .i64 to_, .bool ca, .int .i64 depth, .int .i64 mark], box w.heap.size 28 [.slice (some ⟨b, off, none⟩) n1 c0, .slice (some ⟨b1, off1, none⟩) n1 c1, .slice A2 n2 c2]]) (by kernel_rfl) (by kernel_rfl) (by show Hp _ (World.drew _) _; exact (by repeat (first | (with_reducible exact H) | (with_reducible apply Hp.alloc) | (with_reducible apply Hp.set) | (with_reducible apply Hp.drew) | (with_reducible apply Hp.drewN) | (with_reducible apply Hp.bytesW) | (with_reducible exact Upd.here) | (with_reducible exact Upd.hereR) | (with_reducible apply Upd.there) | (with_reducible apply Sz.alloc) | (with_reducible apply Sz.set) | (with_reducible apply Sz.drew) | (with_reducible apply Sz.drewN) | (with_reducible apply Sz.bytesW) | (with_reducible assumption) | (with_reducible exact Sz.base _)))) ?_; (repeat (first | go_big_quiet_skip | (refine BigFrame.wpQuiet_want (by rfl) (fun K hK => ?_); unfold Oper.quiet; apply Exists.intro; refine ⟨fun W hW => ?_, hK _ ?_⟩; (focus (have G := hW.facts; simp only [Facts, NeF, box, row, reg, cellsF, ne_eq, true_and, and_true, Nat.reduceAdd, Nat.zero_add] at G; obtain ⟨k0, k1⟩ := HKS.out _ _ hW; (try have q0 := HQS.out _ _ hW); go_simp; first | rfl | (first | (go_at_call 30; refine (isCert_any ⟨ser, owner, iss, from_, to_, ca, depth, mark⟩ _ hls (hml.on hW.b)).mono ?_; rintro e w1 ⟨rfl, hb1⟩; rw [h1]; exact ⟨rfl, hW.step hb1⟩) | (go_at_call 31; refine (isKey_any _ _).mono ?_; rintro e w1 ⟨rfl, rfl⟩; rw [h5]; exact ⟨rfl, hW⟩)))); clear hK K; simp only [Act.put, List.setIfInBounds_toArray, List.set_cons_zero, List.set_cons_succ]))); refine wpQuiet_nil ?_; intro wq H; have F := H.facts; simp only [Facts, NeF, box, row, reg, cellsF, ne_eq, true_and, and_true, Nat.reduceAdd, Nat.zero_add] at F)
            all_goals
              go_wp2_with fail
              go_roundw
              case rel => exact ⟨k + 1, by omega, by go_num, HN, Lib.hid (by refine Hp.sel (by repeat (first | (with_reducible exact H) | (with_reducible apply Hp.alloc) | (with_reducible apply Hp.set) | (with_reducible apply Hp.drew) | (with_reducible apply Hp.drewN) | (with_reducible apply Hp.bytesW) | (with_reducible exact Upd.here) | (with_reducible exact Upd.hereR) | (with_reducible apply Upd.there) | (with_reducible apply Sz.alloc) | (with_reducible apply Sz.set) | (with_reducible apply Sz.drew) | (with_reducible apply Sz.drewN) | (with_reducible apply Sz.bytesW) | (with_reducible assumption) | (with_reducible exact Sz.base _))) ?_; (try simp only [List.set_cons_zero, List.set_cons_succ]); exact (by repeat (first | (with_reducible exact Sel.nil) | (with_reducible apply Sel.cons) | (with_reducible exact Del.here) | (with_reducible apply Del.there))))⟩
              case measure => simp [intOf]; omega
    · have HF : Hid (pileRise cs ks cs.length = true) := by rw [hn0, show n1 = k by omega]; exact HR
      have HE : Hid (pileOk cs ks ds = deadRise ds n2) := by
        show _ = _
        cases hz : deadRise ds n2 with
        | false => exact pileOk_c (by rw [hn2, hz]; rfl)
        | true => rw [pileOk_e (by omega) (by omega) (by rw [hn2, hz]; simp; omega), HF.out]
      clear HR HF HP
      go_wp2_with fail
      have HH := Lib.hid H; clear H
      go_loopw [78] (fun i wr => ∃ k : Nat, k ≤ n2 ∧ i = .int .i64 k ∧ Hid (deadRise ds k = true) ∧ Hid (Hp w wr [box w.heap.size 28 [.slice A0 n1 c0, .slice A1 n1 c1, .slice A2 n2 c2]])) (fun i _ => n2 - (intOf i).toNat)
      case atStart =>
        have H := HH.out
        exact ⟨0, Nat.zero_le _, rfl, rfl, Lib.hid (by repeat (first | (with_reducible exact H) | (with_reducible apply Hp.alloc) | (with_reducible apply Hp.set) | (with_reducible apply Hp.drew) | (with_reducible apply Hp.drewN) | (with_reducible apply Hp.bytesW) | (with_reducible exact Upd.here) | (with_reducible exact Upd.hereR) | (with_reducible apply Upd.there) | (with_reducible apply Sz.alloc) | (with_reducible apply Sz.set) | (with_reducible apply Sz.drew) | (with_reducible apply Sz.drewN) | (with_reducible apply Sz.bytesW) | (with_reducible assumption) | (with_reducible exact Sz.base _)))⟩
      case round =>
        clear HH F
        obtain ⟨k, hk, rfl, HR, HP⟩ := hrel
        have H := HP.out
        have F := H.facts; simp only [Facts, NeF, box, row, reg, cellsF, ne_eq, true_and, and_true, Nat.reduceAdd, Nat.zero_add] at F
        by_cases hlt : k < n2
        · skip
          obtain ⟨b, off, rfl, hb⟩ := Rd.atC encInt_len hr2 hn2 (by omega)
          have hcs := Rd.intAt hr2 hn2 (k := k) (by omega) wr H.b
          have hst : deadStep ds k = (inR (ds[k]'(by omega)) 1 1000000000 && (decide (k = 0) || decide (((ds[k - 1]?).getD 0) < (ds[k]'(by omega))))) := by
            unfold deadStep; rw [List.getElem?_eq_getElem (by omega : k < ds.length)]
          have hk1 : (k : Int) < (n2 : Int) := by omega
          have hk0 : (0 : Int) ≤ (k : Int) := by omega
          generalize (ds[k]'(by omega)) = d at *
          have hbw : b < wr.heap.size := Nat.lt_of_lt_of_le hb H.b.size
          have hbe : ¬ b = w.heap.size ∧ ¬ w.heap.size = b := by omega
          cases h1 : inR d 1 1000000000 with
          | false =>
            have HN : Hid (pileOk cs ks ds = false) := by show _ = _; rw [HE.out]; exact deadRise_no hlt (by rw [hst, h1]; simp)
            have HST := Lib.hid hst; clear hst
            go_wp2_with (go_at_call 59; refine (within_any _ _ _ _).mono ?_; rintro e w' ⟨rfl, rfl⟩; rw [h1])
            go_ret
            exact ⟨by rw [HN.out]; rfl, Hp.b (by repeat (first | (with_reducible exact H) | (with_reducible apply Hp.alloc) | (with_reducible apply Hp.set) | (with_reducible apply Hp.drew) | (with_reducible apply Hp.drewN) | (with_reducible apply Hp.bytesW) | (with_reducible exact Upd.here) | (with_reducible exact Upd.hereR) | (with_reducible apply Upd.there) | (with_reducible apply Sz.alloc) | (with_reducible apply Sz.set) | (with_reducible apply Sz.drew) | (with_reducible apply Sz.drewN) | (with_reducible apply Sz.bytesW) | (with_reducible assumption) | (with_reducible exact Sz.base _)))⟩
          | true =>
          by_cases hkz : k = 0
          · have HN : Hid (deadRise ds (k + 1) = true) := deadRise_snoc HR.out (by rw [hst, h1]; simp [hkz])
            have h2 : decide (0 < k) = false := by simp; omega
            have h2i : decide ((0 : Int) < (k : Int)) = false := by simp; omega
            clear hkz
            have HST := Lib.hid hst; clear hst
            go_wp2_with (go_at_call 59; refine (within_any _ _ _ _).mono ?_; rintro e w' ⟨rfl, rfl⟩; rw [h1])
            go_roundw
            case rel => exact ⟨k + 1, by omega, by go_num, HN, Lib.hid (by refine Hp.sel (by repeat (first | (with_reducible exact H) | (with_reducible apply Hp.alloc) | (with_reducible apply Hp.set) | (with_reducible apply Hp.drew) | (with_reducible apply Hp.drewN) | (with_reducible apply Hp.bytesW) | (with_reducible exact Upd.here) | (with_reducible exact Upd.hereR) | (with_reducible apply Upd.there) | (with_reducible apply Sz.alloc) | (with_reducible apply Sz.set) | (with_reducible apply Sz.drew) | (with_reducible apply Sz.drewN) | (with_reducible apply Sz.bytesW) | (with_reducible assumption) | (with_reducible exact Sz.base _))) ?_; (try simp only [List.set_cons_zero, List.set_cons_succ]); exact (by repeat (first | (with_reducible exact Sel.nil) | (with_reducible apply Sel.cons) | (with_reducible exact Del.here) | (with_reducible apply Del.there))))⟩
            case measure => simp [intOf]; omega
          · have h2 : decide (0 < k) = true := by simp; omega
            have h2i : decide ((0 : Int) < (k : Int)) = true := by simp; omega
            have hw1 : IntKind.i64.wrap ((k : Int) - 1) = (k : Int) - 1 := by rw [IntKind.wrap_i64]; omega
            have hp1 : (k : Int) - 1 < (n2 : Int) := by omega
            have hp0 : (0 : Int) ≤ (k : Int) - 1 := by omega
            have hp2 : (1 : Int) ≤ (k : Int) := by omega
            have hqs := Rd.intAt hr2 hn2 (k := k - 1) (by omega) wr H.b
            have hpe : (ds[k - 1]?).getD 0 = (ds[k - 1]'(by omega)) := by rw [List.getElem?_eq_getElem (by omega : k - 1 < ds.length)]; rfl
            rw [hpe] at hst
            clear hpe
            generalize (ds[k - 1]'(by omega)) = q at *
            by_cases h3 : d ≤ q
            · have h3b : decide (d ≤ q) = true := decide_eq_true h3
              have HN : Hid (pileOk cs ks ds = false) := by show _ = _; rw [HE.out]; exact deadRise_no hlt (by rw [hst, h1]; simp [hkz]; omega)
              have HST := Lib.hid hst; clear hst
              go_wp2_with (go_at_call 59; refine (within_any _ _ _ _).mono ?_; rintro e w' ⟨rfl, rfl⟩; rw [h1])
              go_ret
              exact ⟨by rw [HN.out]; rfl, Hp.b (by repeat (first | (with_reducible exact H) | (with_reducible apply Hp.alloc) | (with_reducible apply Hp.set) | (with_reducible apply Hp.drew) | (with_reducible apply Hp.drewN) | (with_reducible apply Hp.bytesW) | (with_reducible exact Upd.here) | (with_reducible exact Upd.hereR) | (with_reducible apply Upd.there) | (with_reducible apply Sz.alloc) | (with_reducible apply Sz.set) | (with_reducible apply Sz.drew) | (with_reducible apply Sz.drewN) | (with_reducible apply Sz.bytesW) | (with_reducible assumption) | (with_reducible exact Sz.base _)))⟩
            · have h3b : decide (d ≤ q) = false := decide_eq_false h3
              have HN : Hid (deadRise ds (k + 1) = true) := deadRise_snoc HR.out (by rw [hst, h1]; simp; omega)
              have HST := Lib.hid hst; clear hst
              go_wp2_with (go_at_call 59; refine (within_any _ _ _ _).mono ?_; rintro e w' ⟨rfl, rfl⟩; rw [h1])
              go_roundw
              case rel => exact ⟨k + 1, by omega, by go_num, HN, Lib.hid (by refine Hp.sel (by repeat (first | (with_reducible exact H) | (with_reducible apply Hp.alloc) | (with_reducible apply Hp.set) | (with_reducible apply Hp.drew) | (with_reducible apply Hp.drewN) | (with_reducible apply Hp.bytesW) | (with_reducible exact Upd.here) | (with_reducible exact Upd.hereR) | (with_reducible apply Upd.there) | (with_reducible apply Sz.alloc) | (with_reducible apply Sz.set) | (with_reducible apply Sz.drew) | (with_reducible apply Sz.drewN) | (with_reducible apply Sz.bytesW) | (with_reducible assumption) | (with_reducible exact Sz.base _))) ?_; (try simp only [List.set_cons_zero, List.set_cons_succ]); exact (by repeat (first | (with_reducible exact Sel.nil) | (with_reducible apply Sel.cons) | (with_reducible exact Del.here) | (with_reducible apply Del.there))))⟩
              case measure => simp [intOf]; omega
        · have HF : Hid (deadRise ds n2 = true) := by rw [show n2 = k by omega]; exact HR
          go_wp2_with fail
          go_ret
          exact ⟨by rw [HE.out, HF.out]; rfl, H.b⟩
end Go.Proofs.YtlblkpcjknjijaaGreatDoor

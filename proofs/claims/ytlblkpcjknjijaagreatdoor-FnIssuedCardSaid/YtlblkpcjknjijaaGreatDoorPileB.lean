/- Piles: which are valid (the reference's and the program's). No condition. -/
import Derived.Test.YtlblkpcjknjijaaGreatDoorPileA
set_option linter.unusedVariables false
set_option linter.unusedSimpArgs false
namespace Go.Proofs.YtlblkpcjknjijaaGreatDoor
open Go.RowKit
set_option linter.unusedVariables false
set_option linter.unusedSimpArgs false
abbrev pileV (A0 : Option Addr) (n0 c0 : Nat) (A1 : Option Addr) (n1 c1 : Nat) (A2 : Option Addr) (n2 c2 : Nat) : Value := .agg #[.slice A0 n0 c0, .slice A1 n1 c1, .slice A2 n2 c2]
theorem pileOk_a {cs : List Cert} {ks : List CertKey} {ds : List Int} (h : ¬ cs.length ≤ 60) : pileOk cs ks ds = false := by simp [pileOk, h]
theorem pileOk_b {cs : List Cert} {ks : List CertKey} {ds : List Int} (h : ¬ ks.length = cs.length) : pileOk cs ks ds = false := by simp [pileOk, h]
theorem pileOk_c {cs : List Cert} {ks : List CertKey} {ds : List Int} (h : (deadRise ds ds.length && decide (ds.length ≤ 60)) = false) : pileOk cs ks ds = false := by
  cases h1 : deadRise ds ds.length with
  | false => simp [pileOk, h1]
  | true =>
    have h2 : ¬ ds.length ≤ 60 := by simpa [h1] using h
    simp [pileOk, h2]
theorem pileOk_d {cs : List Cert} {ks : List CertKey} {ds : List Int} (h : pileRise cs ks cs.length = false) : pileOk cs ks ds = false := by simp [pileOk, h]
theorem pileOk_e {cs : List Cert} {ks : List CertKey} {ds : List Int} (h1 : cs.length ≤ 60) (h2 : ks.length = cs.length) (h3 : (deadRise ds ds.length && decide (ds.length ≤ 60)) = true) : pileOk cs ks ds = pileRise cs ks cs.length := by
  simp only [Bool.and_eq_true, decide_eq_true_eq] at h3
  simp [pileOk, h1, h2, h3.1, h3.2]
set_option maxHeartbeats 16000000 in
set_option maxRecDepth 10000 in
theorem specPileOk_any (A0 : Option Addr) (n0 c0 : Nat) (cs : List Cert) (A1 : Option Addr) (n1 c1 : Nat) (ks : List CertKey) (A2 : Option Addr) (n2 c2 : Nat) (ds : List Int) (w : World) (hr0 : Rd w w.heap.size 8 A0 n0 c0 (cs.flatMap encCert)) (hn0 : cs.length = n0) (hsz : ∀ u ∈ cs, CertFits u) (hr1 : Rd w w.heap.size 2 A1 n1 c1 (ks.flatMap encCertKey)) (hn1 : ks.length = n1) (hr2 : Rd w w.heap.size 1 A2 n2 c2 (ds.flatMap encInt)) (hn2 : ds.length = n2) :
    Calls Tryz.prog 20 #[pileV A0 n0 c0 A1 n1 c1 A2 n2 c2] w fun e w' => e = .returned (.bool (pileOk cs ks ds)) ∧ Below w.heap.size w w' := by
  have hc := hr0.2.1
  have hm := hr0.2.2.1
  have hc1 := hr1.2.1
  have hm1 := hr1.2.2.1
  have hc2 := hr2.2.1
  have hm2 := hr2.2.2.1
  unfold maxLen at hm hm1 hm2
  have H := Hp.nil w
  by_cases h60 : ¬ n0 ≤ 60
  · have HR : Hid (pileOk cs ks ds = false) := pileOk_a (by rw [hn0]; exact h60)
    go_enter Tryz.func20, Tryz.ntmps20
    go_wp2_with fail
    go_ret
    exact ⟨by rw [HR.out]; rfl, Hp.b (by repeat (first | (with_reducible exact H) | (with_reducible apply Hp.alloc) | (with_reducible apply Hp.set) | (with_reducible apply Hp.drew) | (with_reducible apply Hp.drewN) | (with_reducible apply Hp.bytesW) | (with_reducible exact Upd.here) | (with_reducible exact Upd.hereR) | (with_reducible apply Upd.there) | (with_reducible apply Sz.alloc) | (with_reducible apply Sz.set) | (with_reducible apply Sz.drew) | (with_reducible apply Sz.drewN) | (with_reducible apply Sz.bytesW) | (with_reducible assumption) | (with_reducible exact Sz.base _)))⟩
  replace h60 : n0 ≤ 60 := by omega
  by_cases h61 : ¬ n1 = n0
  · have HR : Hid (pileOk cs ks ds = false) := pileOk_b (by rw [hn0, hn1]; exact h61)
    have h61i : ¬ (n1 : Int) = (n0 : Int) := by omega
    go_enter Tryz.func20, Tryz.ntmps20
    go_wp2_with fail
    go_ret
    exact ⟨by rw [HR.out]; rfl, Hp.b (by repeat (first | (with_reducible exact H) | (with_reducible apply Hp.alloc) | (with_reducible apply Hp.set) | (with_reducible apply Hp.drew) | (with_reducible apply Hp.drewN) | (with_reducible apply Hp.bytesW) | (with_reducible exact Upd.here) | (with_reducible exact Upd.hereR) | (with_reducible apply Upd.there) | (with_reducible apply Sz.alloc) | (with_reducible apply Sz.set) | (with_reducible apply Sz.drew) | (with_reducible apply Sz.drewN) | (with_reducible apply Sz.bytesW) | (with_reducible assumption) | (with_reducible exact Sz.base _)))⟩
  obtain rfl : n1 = n0 := by omega
  clear h61
  cases h62 : (deadRise ds n2 && decide (n2 ≤ 60)) with
  | false =>
    have HR : Hid (pileOk cs ks ds = false) := pileOk_c (by rw [hn2]; exact h62)
    go_enter Tryz.func20, Tryz.ntmps20
    go_wp2_with (go_at_call 51; refine (l12Rising_any A2 n2 c2 ds _ (hr2.grow (Hp.b (by repeat (first | (with_reducible exact H) | (with_reducible apply Hp.alloc) | (with_reducible apply Hp.set) | (with_reducible apply Hp.drew) | (with_reducible apply Hp.drewN) | (with_reducible apply Hp.bytesW) | (with_reducible exact Upd.here) | (with_reducible exact Upd.hereR) | (with_reducible apply Upd.there) | (with_reducible apply Sz.alloc) | (with_reducible apply Sz.set) | (with_reducible apply Sz.drew) | (with_reducible apply Sz.drewN) | (with_reducible apply Sz.bytesW) | (with_reducible assumption) | (with_reducible exact Sz.base _))))) hn2).mono ?_; rintro e w1 ⟨rfl, hb1⟩; rw [h62]; replace H := Hp.step (by repeat (first | (with_reducible exact H) | (with_reducible apply Hp.alloc) | (with_reducible apply Hp.set) | (with_reducible apply Hp.drew) | (with_reducible apply Hp.drewN) | (with_reducible apply Hp.bytesW) | (with_reducible exact Upd.here) | (with_reducible exact Upd.hereR) | (with_reducible apply Upd.there) | (with_reducible apply Sz.alloc) | (with_reducible apply Sz.set) | (with_reducible apply Sz.drew) | (with_reducible apply Sz.drewN) | (with_reducible apply Sz.bytesW) | (with_reducible assumption) | (with_reducible exact Sz.base _))) hb1; (try simp only [List.set_cons_zero, List.set_cons_succ, List.cons_append, List.nil_append] at H); clear hb1; have F := H.facts; simp only [Facts, NeF, box, row, reg, cellsF, ne_eq, true_and, and_true, Nat.reduceAdd, Nat.zero_add] at F)
    go_ret
    exact ⟨by rw [HR.out]; rfl, Hp.b (by repeat (first | (with_reducible exact H) | (with_reducible apply Hp.alloc) | (with_reducible apply Hp.set) | (with_reducible apply Hp.drew) | (with_reducible apply Hp.drewN) | (with_reducible apply Hp.bytesW) | (with_reducible exact Upd.here) | (with_reducible exact Upd.hereR) | (with_reducible apply Upd.there) | (with_reducible apply Sz.alloc) | (with_reducible apply Sz.set) | (with_reducible apply Sz.drew) | (with_reducible apply Sz.drewN) | (with_reducible apply Sz.bytesW) | (with_reducible assumption) | (with_reducible exact Sz.base _)))⟩
  | true =>
  have HE : Hid (pileOk cs ks ds = pileRise cs ks n1) := by show _ = _; rw [pileOk_e (by omega) (by omega) (by rw [hn2]; exact h62), hn0]
  go_enter Tryz.func20, Tryz.ntmps20
  go_wp2_with (go_at_call 51; refine (l12Rising_any A2 n2 c2 ds _ (hr2.grow (Hp.b (by repeat (first | (with_reducible exact H) | (with_reducible apply Hp.alloc) | (with_reducible apply Hp.set) | (with_reducible apply Hp.drew) | (with_reducible apply Hp.drewN) | (with_reducible apply Hp.bytesW) | (with_reducible exact Upd.here) | (with_reducible exact Upd.hereR) | (with_reducible apply Upd.there) | (with_reducible apply Sz.alloc) | (with_reducible apply Sz.set) | (with_reducible apply Sz.drew) | (with_reducible apply Sz.drewN) | (with_reducible apply Sz.bytesW) | (with_reducible assumption) | (with_reducible exact Sz.base _))))) hn2).mono ?_; rintro e w1 ⟨rfl, hb1⟩; rw [h62]; replace H := Hp.step (by repeat (first | (with_reducible exact H) | (with_reducible apply Hp.alloc) | (with_reducible apply Hp.set) | (with_reducible apply Hp.drew) | (with_reducible apply Hp.drewN) | (with_reducible apply Hp.bytesW) | (with_reducible exact Upd.here) | (with_reducible exact Upd.hereR) | (with_reducible apply Upd.there) | (with_reducible apply Sz.alloc) | (with_reducible apply Sz.set) | (with_reducible apply Sz.drew) | (with_reducible apply Sz.drewN) | (with_reducible apply Sz.bytesW) | (with_reducible assumption) | (with_reducible exact Sz.base _))) hb1; (try simp only [List.set_cons_zero, List.set_cons_succ, List.cons_append, List.nil_append] at H); clear hb1; have F := H.facts; simp only [Facts, NeF, box, row, reg, cellsF, ne_eq, true_and, and_true, Nat.reduceAdd, Nat.zero_add] at F)
  clear h62
  have HH := Lib.hid H; clear H
  go_loopw [3] (fun i wr => ∃ k : Nat, k ≤ n1 ∧ i = .int .i64 k ∧ Hid (pileRise cs ks k = true) ∧ Hid (Hp w wr [box w.heap.size 28 [.slice A0 n1 c0, .slice A1 n1 c1, .slice A2 n2 c2]])) (fun i _ => n1 - (intOf i).toNat)
  case atStart =>
    have H := HH.out
    exact ⟨0, Nat.zero_le _, rfl, rfl, Lib.hid (by repeat (first | (with_reducible exact H) | (with_reducible apply Hp.alloc) | (with_reducible apply Hp.set) | (with_reducible apply Hp.drew) | (with_reducible apply Hp.drewN) | (with_reducible apply Hp.bytesW) | (with_reducible exact Upd.here) | (with_reducible exact Upd.hereR) | (with_reducible apply Upd.there) | (with_reducible apply Sz.alloc) | (with_reducible apply Sz.set) | (with_reducible apply Sz.drew) | (with_reducible apply Sz.drewN) | (with_reducible apply Sz.bytesW) | (with_reducible assumption) | (with_reducible exact Sz.base _)))⟩
  case round =>
    clear HH
    obtain ⟨k, hk, rfl, HR, HP⟩ := hrel
    have H := HP.out
    have F := H.facts; simp only [Facts, NeF, box, row, reg, cellsF, ne_eq, true_and, and_true, Nat.reduceAdd, Nat.zero_add] at F
    by_cases hlt : k < n1
    · skip
      obtain ⟨b, off, rfl, hb⟩ := Rd.atC encCert_len hr0 hn0 (by omega)
      obtain ⟨b1, off1, rfl, hb1⟩ := Rd.atC encCertKey_len hr1 hn1 (by omega)
      have hcs : ∀ (W : World) (L : List Ent), Hp w W L → _ := fun W L h => Rd.certAt hr0 hn0 (k := k) (by omega) rfl W h.b
      have hks : ∀ (W : World) (L : List Ent), Hp w W L → _ := fun W L h => Rd.keyAt hr1 hn1 (k := k) (by omega) rfl W h.b
      have hls : (cs[k]'(by omega)).owner.size ≤ maxLen := hsz _ (List.getElem_mem _)
      have hst : pileStep cs ks k = (certOk (cs[k]'(by omega)) && ((decide (k = 0) || decide (((cs[k - 1]?.map (·.ser)).getD 0) < (cs[k]'(by omega)).ser)) && (((ks[k]'(by omega)).ser == (cs[k]'(by omega)).ser) && keyOk (ks[k]'(by omega)).key))) := by
        unfold pileStep; rw [List.getElem?_eq_getElem (by omega : k < cs.length), List.getElem?_eq_getElem (by omega : k < ks.length)]
      have hk1 : (k : Int) < (n1 : Int) := by omega
      have hk0 : (0 : Int) ≤ (k : Int) := by omega
      generalize (cs[k]'(by omega)) = c at *
      generalize (ks[k]'(by omega)) = x at *
      cases h1 : certOk c with
      | false =>
        have HN : Hid (pileOk cs ks ds = false) := pileOk_d (by rw [hn0]; exact pileRise_no hlt (by rw [hst]; simp [h1]))
        (try clear hkz)
        have HCS := Lib.hid hcs; clear hcs
        have HKS := Lib.hid hks; clear hks
        obtain ⟨e0, e1, e2, e3, e4, e5, e6, e7⟩ := HCS.out _ _ H
        obtain ⟨ser, owner, iss, from_, to_, ca, depth, mark⟩ := c
        obtain ⟨xs, xk⟩ := x
        dsimp only at e0 e1 e2 e3 e4 e5 e6 e7 hls
        have HST := Lib.hid hst; clear hst
        have hbw : b < wr.heap.size := Nat.lt_of_lt_of_le hb H.b.size
        have hbw1 : b1 < wr.heap.size := Nat.lt_of_lt_of_le hb1 H.b.size
        go_wp2_with fail
        clear e0 e1 e2 e3 e4 e5 e6 e7 F
        (refine wp_region_quiet (C := fun W => Hp w W [box w.heap.size 28 [.slice (some ⟨b, off, none⟩) n1 c0, .slice (some ⟨b1, off1, none⟩) n1 c1, .slice A2 n2 c2]]) (by kernel_rfl) (by kernel_rfl) (by show Hp _ (World.drew _) _; exact (by repeat (first | (with_reducible exact H) | (with_reducible apply Hp.alloc) | (with_reducible apply Hp.set) | (with_reducible apply Hp.drew) | (with_reducible apply Hp.drewN) | (with_reducible apply Hp.bytesW) | (with_reducible exact Upd.here) | (with_reducible exact Upd.hereR) | (with_reducible apply Upd.there) | (with_reducible apply Sz.alloc) | (with_reducible apply Sz.set) | (with_reducible apply Sz.drew) | (with_reducible apply Sz.drewN) | (with_reducible apply Sz.bytesW) | (with_reducible assumption) | (with_reducible exact Sz.base _)))) ?_; (repeat (first | go_big_quiet_skip | (refine BigFrame.wpQuiet_want (by rfl) (fun K hK => ?_); unfold Oper.quiet; apply Exists.intro; refine ⟨fun W hW => ?_, hK _ ?_⟩; (focus (have G := hW.facts; simp only [Facts, NeF, box, row, reg, cellsF, ne_eq, true_and, and_true, Nat.reduceAdd, Nat.zero_add] at G; obtain ⟨e0, e1, e2, e3, e4, e5, e6, e7⟩ := HCS.out _ _ hW; obtain ⟨k0, k1⟩ := HKS.out _ _ hW; (try have q0 := HQS.out _ _ hW); go_simp; first | rfl | (first | (go_at_call 21; refine (specCertOk_any ⟨ser, owner, iss, from_, to_, ca, depth, mark⟩ _ hls).mono ?_; rintro e w1 ⟨rfl, hb1⟩; rw [h1]; exact ⟨rfl, hW.step hb1⟩) | (go_at_call 22; refine (l04Key_any _ _).mono ?_; rintro e w1 ⟨rfl, rfl⟩; rw [h5]; exact ⟨rfl, hW⟩)))); clear hK K; simp only [Act.put, List.setIfInBounds_toArray, List.set_cons_zero, List.set_cons_succ]))); refine wpQuiet_nil ?_; intro wq H; have F := H.facts; simp only [Facts, NeF, box, row, reg, cellsF, ne_eq, true_and, and_true, Nat.reduceAdd, Nat.zero_add] at F)
        all_goals
          go_wp2_with fail
          go_ret
          exact ⟨by rw [HN.out]; rfl, Hp.b (by repeat (first | (with_reducible exact H) | (with_reducible apply Hp.alloc) | (with_reducible apply Hp.set) | (with_reducible apply Hp.drew) | (with_reducible apply Hp.drewN) | (with_reducible apply Hp.bytesW) | (with_reducible exact Upd.here) | (with_reducible exact Upd.hereR) | (with_reducible apply Upd.there) | (with_reducible apply Sz.alloc) | (with_reducible apply Sz.set) | (with_reducible apply Sz.drew) | (with_reducible apply Sz.drewN) | (with_reducible apply Sz.bytesW) | (with_reducible assumption) | (with_reducible exact Sz.base _)))⟩
      | true =>
        by_cases hkz : k = 0
        · have h2 : decide (0 < k) = false := by simp; omega
          have h2i : decide ((0 : Int) < (k : Int)) = false := by simp; omega
          by_cases h4 : ¬ x.ser = c.ser
          · have h4i : (x.ser != c.ser) = true := by simpa using h4
            have h4d : decide (x.ser = c.ser) = false := decide_eq_false h4
            have HN : Hid (pileOk cs ks ds = false) := pileOk_d (by rw [hn0]; exact pileRise_no hlt (by rw [hst]; simp [h4]))
            (try clear hkz)
            have HCS := Lib.hid hcs; clear hcs
            have HKS := Lib.hid hks; clear hks
            obtain ⟨e0, e1, e2, e3, e4, e5, e6, e7⟩ := HCS.out _ _ H
            obtain ⟨ser, owner, iss, from_, to_, ca, depth, mark⟩ := c
            obtain ⟨xs, xk⟩ := x
            dsimp only at e0 e1 e2 e3 e4 e5 e6 e7 hls
            have HST := Lib.hid hst; clear hst
            have hbw : b < wr.heap.size := Nat.lt_of_lt_of_le hb H.b.size
            have hbw1 : b1 < wr.heap.size := Nat.lt_of_lt_of_le hb1 H.b.size
            go_wp2_with fail
            clear e0 e1 e2 e3 e4 e5 e6 e7 F
            (refine wp_region_quiet (C := fun W => Hp w W [box w.heap.size 28 [.slice (some ⟨b, off, none⟩) n1 c0, .slice (some ⟨b1, off1, none⟩) n1 c1, .slice A2 n2 c2]]) (by kernel_rfl) (by kernel_rfl) (by show Hp _ (World.drew _) _; exact (by repeat (first | (with_reducible exact H) | (with_reducible apply Hp.alloc) | (with_reducible apply Hp.set) | (with_reducible apply Hp.drew) | (with_reducible apply Hp.drewN) | (with_reducible apply Hp.bytesW) | (with_reducible exact Upd.here) | (with_reducible exact Upd.hereR) | (with_reducible apply Upd.there) | (with_reducible apply Sz.alloc) | (with_reducible apply Sz.set) | (with_reducible apply Sz.drew) | (with_reducible apply Sz.drewN) | (with_reducible apply Sz.bytesW) | (with_reducible assumption) | (with_reducible exact Sz.base _)))) ?_; (repeat (first | go_big_quiet_skip | (refine BigFrame.wpQuiet_want (by rfl) (fun K hK => ?_); unfold Oper.quiet; apply Exists.intro; refine ⟨fun W hW => ?_, hK _ ?_⟩; (focus (have G := hW.facts; simp only [Facts, NeF, box, row, reg, cellsF, ne_eq, true_and, and_true, Nat.reduceAdd, Nat.zero_add] at G; obtain ⟨e0, e1, e2, e3, e4, e5, e6, e7⟩ := HCS.out _ _ hW; obtain ⟨k0, k1⟩ := HKS.out _ _ hW; (try have q0 := HQS.out _ _ hW); go_simp; first | rfl | (first | (go_at_call 21; refine (specCertOk_any ⟨ser, owner, iss, from_, to_, ca, depth, mark⟩ _ hls).mono ?_; rintro e w1 ⟨rfl, hb1⟩; rw [h1]; exact ⟨rfl, hW.step hb1⟩) | (go_at_call 22; refine (l04Key_any _ _).mono ?_; rintro e w1 ⟨rfl, rfl⟩; rw [h5]; exact ⟨rfl, hW⟩)))); clear hK K; simp only [Act.put, List.setIfInBounds_toArray, List.set_cons_zero, List.set_cons_succ]))); refine wpQuiet_nil ?_; intro wq H; have F := H.facts; simp only [Facts, NeF, box, row, reg, cellsF, ne_eq, true_and, and_true, Nat.reduceAdd, Nat.zero_add] at F)
            all_goals
              go_wp2_with fail
              go_ret
              exact ⟨by rw [HN.out]; rfl, Hp.b (by repeat (first | (with_reducible exact H) | (with_reducible apply Hp.alloc) | (with_reducible apply Hp.set) | (with_reducible apply Hp.drew) | (with_reducible apply Hp.drewN) | (with_reducible apply Hp.bytesW) | (with_reducible exact Upd.here) | (with_reducible exact Upd.hereR) | (with_reducible apply Upd.there) | (with_reducible apply Sz.alloc) | (with_reducible apply Sz.set) | (with_reducible apply Sz.drew) | (with_reducible apply Sz.drewN) | (with_reducible apply Sz.bytesW) | (with_reducible assumption) | (with_reducible exact Sz.base _)))⟩
          replace h4 : x.ser = c.ser := by simpa using h4
          have h4i : (x.ser != c.ser) = false := by simpa using h4
          have h4d : decide (x.ser = c.ser) = true := decide_eq_true h4
          cases h5 : inR x.key 0 1099511627776 with
          | false =>
            have HN : Hid (pileOk cs ks ds = false) := pileOk_d (by rw [hn0]; exact pileRise_no hlt (by rw [hst]; simp [keyOk, h5]))
            (try clear hkz)
            have HCS := Lib.hid hcs; clear hcs
            have HKS := Lib.hid hks; clear hks
            obtain ⟨e0, e1, e2, e3, e4, e5, e6, e7⟩ := HCS.out _ _ H
            obtain ⟨ser, owner, iss, from_, to_, ca, depth, mark⟩ := c
            obtain ⟨xs, xk⟩ := x
            dsimp only at e0 e1 e2 e3 e4 e5 e6 e7 hls
            have HST := Lib.hid hst; clear hst
            have hbw : b < wr.heap.size := Nat.lt_of_lt_of_le hb H.b.size
            have hbw1 : b1 < wr.heap.size := Nat.lt_of_lt_of_le hb1 H.b.size
            go_wp2_with fail
            clear e0 e1 e2 e3 e4 e5 e6 e7 F
            (refine wp_region_quiet (C := fun W => Hp w W [box w.heap.size 28 [.slice (some ⟨b, off, none⟩) n1 c0, .slice (some ⟨b1, off1, none⟩) n1 c1, .slice A2 n2 c2]]) (by kernel_rfl) (by kernel_rfl) (by show Hp _ (World.drew _) _; exact (by repeat (first | (with_reducible exact H) | (with_reducible apply Hp.alloc) | (with_reducible apply Hp.set) | (with_reducible apply Hp.drew) | (with_reducible apply Hp.drewN) | (with_reducible apply Hp.bytesW) | (with_reducible exact Upd.here) | (with_reducible exact Upd.hereR) | (with_reducible apply Upd.there) | (with_reducible apply Sz.alloc) | (with_reducible apply Sz.set) | (with_reducible apply Sz.drew) | (with_reducible apply Sz.drewN) | (with_reducible apply Sz.bytesW) | (with_reducible assumption) | (with_reducible exact Sz.base _)))) ?_; (repeat (first | go_big_quiet_skip | (refine BigFrame.wpQuiet_want (by rfl) (fun K hK => ?_); unfold Oper.quiet; apply Exists.intro; refine ⟨fun W hW => ?_, hK _ ?_⟩; (focus (have G := hW.facts; simp only [Facts, NeF, box, row, reg, cellsF, ne_eq, true_and, and_true, Nat.reduceAdd, Nat.zero_add] at G; obtain ⟨e0, e1, e2, e3, e4, e5, e6, e7⟩ := HCS.out _ _ hW; obtain ⟨k0, k1⟩ := HKS.out _ _ hW; (try have q0 := HQS.out _ _ hW); go_simp; first | rfl | (first | (go_at_call 21; refine (specCertOk_any ⟨ser, owner, iss, from_, to_, ca, depth, mark⟩ _ hls).mono ?_; rintro e w1 ⟨rfl, hb1⟩; rw [h1]; exact ⟨rfl, hW.step hb1⟩) | (go_at_call 22; refine (l04Key_any _ _).mono ?_; rintro e w1 ⟨rfl, rfl⟩; rw [h5]; exact ⟨rfl, hW⟩)))); clear hK K; simp only [Act.put, List.setIfInBounds_toArray, List.set_cons_zero, List.set_cons_succ]))); refine wpQuiet_nil ?_; intro wq H; have F := H.facts; simp only [Facts, NeF, box, row, reg, cellsF, ne_eq, true_and, and_true, Nat.reduceAdd, Nat.zero_add] at F)
            all_goals
              go_wp2_with fail
              go_ret
              exact ⟨by rw [HN.out]; rfl, Hp.b (by repeat (first | (with_reducible exact H) | (with_reducible apply Hp.alloc) | (with_reducible apply Hp.set) | (with_reducible apply Hp.drew) | (with_reducible apply Hp.drewN) | (with_reducible apply Hp.bytesW) | (with_reducible exact Upd.here) | (with_reducible exact Upd.hereR) | (with_reducible apply Upd.there) | (with_reducible apply Sz.alloc) | (with_reducible apply Sz.set) | (with_reducible apply Sz.drew) | (with_reducible apply Sz.drewN) | (with_reducible apply Sz.bytesW) | (with_reducible assumption) | (with_reducible exact Sz.base _)))⟩
          | true =>
            have HN : Hid (pileRise cs ks (k + 1) = true) := pileRise_snoc HR.out (by rw [hst, h1]; simp [keyOk, h4, h5, hkz])
            (try clear hkz)
            have HCS := Lib.hid hcs; clear hcs
            have HKS := Lib.hid hks; clear hks
            obtain ⟨e0, e1, e2, e3, e4, e5, e6, e7⟩ := HCS.out _ _ H
            obtain ⟨ser, owner, iss, from_, to_, ca, depth, mark⟩ := c
            obtain ⟨xs, xk⟩ := x
            dsimp only at e0 e1 e2 e3 e4 e5 e6 e7 hls
            have HST := Lib.hid hst; clear hst
            have hbw : b < wr.heap.size := Nat.lt_of_lt_of_le hb H.b.size
            have hbw1 : b1 < wr.heap.size := Nat.lt_of_lt_of_le hb1 H.b.size
            go_wp2_with fail
            clear e0 e1 e2 e3 e4 e5 e6 e7 F
            (refine wp_region_quiet (C := fun W => Hp w W [box w.heap.size 28 [.slice (some ⟨b, off, none⟩) n1 c0, .slice (some ⟨b1, off1, none⟩) n1 c1, .slice A2 n2 c2]]) (by kernel_rfl) (by kernel_rfl) (by show Hp _ (World.drew _) _; exact (by repeat (first | (with_reducible exact H) | (with_reducible apply Hp.alloc) | (with_reducible apply Hp.set) | (with_reducible apply Hp.drew) | (with_reducible apply Hp.drewN) | (with_reducible apply Hp.bytesW) | (with_reducible exact Upd.here) | (with_reducible exact Upd.hereR) | (with_reducible apply Upd.there) | (with_reducible apply Sz.alloc) | (with_reducible apply Sz.set) | (with_reducible apply Sz.drew) | (with_reducible apply Sz.drewN) | (with_reducible apply Sz.bytesW) | (with_reducible assumption) | (with_reducible exact Sz.base _)))) ?_; (repeat (first | go_big_quiet_skip | (refine BigFrame.wpQuiet_want (by rfl) (fun K hK => ?_); unfold Oper.quiet; apply Exists.intro; refine ⟨fun W hW => ?_, hK _ ?_⟩; (focus (have G := hW.facts; simp only [Facts, NeF, box, row, reg, cellsF, ne_eq, true_and, and_true, Nat.reduceAdd, Nat.zero_add] at G; obtain ⟨e0, e1, e2, e3, e4, e5, e6, e7⟩ := HCS.out _ _ hW; obtain ⟨k0, k1⟩ := HKS.out _ _ hW; (try have q0 := HQS.out _ _ hW); go_simp; first | rfl | (first | (go_at_call 21; refine (specCertOk_any ⟨ser, owner, iss, from_, to_, ca, depth, mark⟩ _ hls).mono ?_; rintro e w1 ⟨rfl, hb1⟩; rw [h1]; exact ⟨rfl, hW.step hb1⟩) | (go_at_call 22; refine (l04Key_any _ _).mono ?_; rintro e w1 ⟨rfl, rfl⟩; rw [h5]; exact ⟨rfl, hW⟩)))); clear hK K; simp only [Act.put, List.setIfInBounds_toArray, List.set_cons_zero, List.set_cons_succ]))); refine wpQuiet_nil ?_; intro wq H; have F := H.facts; simp only [Facts, NeF, box, row, reg, cellsF, ne_eq, true_and, and_true, Nat.reduceAdd, Nat.zero_add] at F)
            all_goals
              go_wp2_with fail
              go_roundw
              case rel => exact ⟨k + 1, by omega, by go_num, HN, Lib.hid (by refine Hp.sel (by repeat (first | (with_reducible exact H) | (with_reducible apply Hp.alloc) | (with_reducible apply Hp.set) | (with_reducible apply Hp.drew) | (with_reducible apply Hp.drewN) | (with_reducible apply Hp.bytesW) | (with_reducible exact Upd.here) | (with_reducible exact Upd.hereR) | (with_reducible apply Upd.there) | (with_reducible apply Sz.alloc) | (with_reducible apply Sz.set) | (with_reducible apply Sz.drew) | (with_reducible apply Sz.drewN) | (with_reducible apply Sz.bytesW) | (with_reducible assumption) | (with_reducible exact Sz.base _))) ?_; (try simp only [List.set_cons_zero, List.set_cons_succ]); exact (by repeat (first | (with_reducible exact Sel.nil) | (with_reducible apply Sel.cons) | (with_reducible exact Del.here) | (with_reducible apply Del.there))))⟩
              case measure => simp [intOf]; omega
        · skip
          have h2 : decide (0 < k) = true := by simp; omega
          have h2i : decide ((0 : Int) < (k : Int)) = true := by simp; omega
          have hw1 : IntKind.i64.wrap ((k : Int) - 1) = (k : Int) - 1 := by rw [IntKind.wrap_i64]; omega
          have hp1 : (k : Int) - 1 < (n1 : Int) := by omega
          have hp0 : (0 : Int) ≤ (k : Int) - 1 := by omega
          have hp2 : (1 : Int) ≤ (k : Int) := by omega
          have hqs : ∀ (W : World) (L : List Ent), Hp w W L → W.cell? ⟨b, off + (k - 1) * 8, none⟩ = some (.int .i64 (cs[k - 1]'(by omega)).ser) := fun W L h => (Rd.certAt hr0 hn0 (k := k - 1) (by omega) rfl W h.b).1
          have hpe : (cs[k - 1]?.map (·.ser)).getD 0 = (cs[k - 1]'(by omega)).ser := by rw [List.getElem?_eq_getElem (by omega : k - 1 < cs.length)]; rfl
          rw [hpe] at hst
          clear hpe
          generalize (cs[k - 1]'(by omega)).ser = q at *
          have HQS := Lib.hid hqs; clear hqs
          by_cases h3 : c.ser ≤ q
          · have h3b : decide (c.ser ≤ q) = true := decide_eq_true h3
            have HN : Hid (pileOk cs ks ds = false) := pileOk_d (by rw [hn0]; exact pileRise_no hlt (by rw [hst]; simp [hkz]; omega))
            (try clear hkz)
            have HCS := Lib.hid hcs; clear hcs
            have HKS := Lib.hid hks; clear hks
            obtain ⟨e0, e1, e2, e3, e4, e5, e6, e7⟩ := HCS.out _ _ H
            obtain ⟨ser, owner, iss, from_, to_, ca, depth, mark⟩ := c
            obtain ⟨xs, xk⟩ := x
            dsimp only at e0 e1 e2 e3 e4 e5 e6 e7 hls
            have HST := Lib.hid hst; clear hst
            have hbw : b < wr.heap.size := Nat.lt_of_lt_of_le hb H.b.size
            have hbw1 : b1 < wr.heap.size := Nat.lt_of_lt_of_le hb1 H.b.size
            go_wp2_with fail
            clear e0 e1 e2 e3 e4 e5 e6 e7 F
            (refine wp_region_quiet (C := fun W => Hp w W [box w.heap.size 28 [.slice (some ⟨b, off, none⟩) n1 c0, .slice (some ⟨b1, off1, none⟩) n1 c1, .slice A2 n2 c2]]) (by kernel_rfl) (by kernel_rfl) (by show Hp _ (World.drew _) _; exact (by repeat (first | (with_reducible exact H) | (with_reducible apply Hp.alloc) | (with_reducible apply Hp.set) | (with_reducible apply Hp.drew) | (with_reducible apply Hp.drewN) | (with_reducible apply Hp.bytesW) | (with_reducible exact Upd.here) | (with_reducible exact Upd.hereR) | (with_reducible apply Upd.there) | (with_reducible apply Sz.alloc) | (with_reducible apply Sz.set) | (with_reducible apply Sz.drew) | (with_reducible apply Sz.drewN) | (with_reducible apply Sz.bytesW) | (with_reducible assumption) | (with_reducible exact Sz.base _)))) ?_; (repeat (first | go_big_quiet_skip | (refine BigFrame.wpQuiet_want (by rfl) (fun K hK => ?_); unfold Oper.quiet; apply Exists.intro; refine ⟨fun W hW => ?_, hK _ ?_⟩; (focus (have G := hW.facts; simp only [Facts, NeF, box, row, reg, cellsF, ne_eq, true_and, and_true, Nat.reduceAdd, Nat.zero_add] at G; obtain ⟨e0, e1, e2, e3, e4, e5, e6, e7⟩ := HCS.out _ _ hW; obtain ⟨k0, k1⟩ := HKS.out _ _ hW; (try have q0 := HQS.out _ _ hW); go_simp; first | rfl | (first | (go_at_call 21; refine (specCertOk_any ⟨ser, owner, iss, from_, to_, ca, depth, mark⟩ _ hls).mono ?_; rintro e w1 ⟨rfl, hb1⟩; rw [h1]; exact ⟨rfl, hW.step hb1⟩) | (go_at_call 22; refine (l04Key_any _ _).mono ?_; rintro e w1 ⟨rfl, rfl⟩; rw [h5]; exact ⟨rfl, hW⟩)))); clear hK K; simp only [Act.put, List.setIfInBounds_toArray, List.set_cons_zero, List.set_cons_succ]))); refine wpQuiet_nil ?_; intro wq H; have F := H.facts; simp only [Facts, NeF, box, row, reg, cellsF, ne_eq, true_and, and_true, Nat.reduceAdd, Nat.zero_add] at F)
            all_goals
              go_wp2_with fail
              go_ret
              exact ⟨by rw [HN.out]; rfl, Hp.b (by repeat (first | (with_reducible exact H) | (with_reducible apply Hp.alloc) | (with_reducible apply Hp.set) | (with_reducible apply Hp.drew) | (with_reducible apply Hp.drewN) | (with_reducible apply Hp.bytesW) | (with_reducible exact Upd.here) | (with_reducible exact Upd.hereR) | (with_reducible apply Upd.there) | (with_reducible apply Sz.alloc) | (with_reducible apply Sz.set) | (with_reducible apply Sz.drew) | (with_reducible apply Sz.drewN) | (with_reducible apply Sz.bytesW) | (with_reducible assumption) | (with_reducible exact Sz.base _)))⟩
          have h3b : decide (c.ser ≤ q) = false := decide_eq_false h3
          by_cases h4 : ¬ x.ser = c.ser
          · have h4i : (x.ser != c.ser) = true := by simpa using h4
            have h4d : decide (x.ser = c.ser) = false := decide_eq_false h4
            have HN : Hid (pileOk cs ks ds = false) := pileOk_d (by rw [hn0]; exact pileRise_no hlt (by rw [hst]; simp [h4]))
            (try clear hkz)
            have HCS := Lib.hid hcs; clear hcs
            have HKS := Lib.hid hks; clear hks
            obtain ⟨e0, e1, e2, e3, e4, e5, e6, e7⟩ := HCS.out _ _ H
            obtain ⟨ser, owner, iss, from_, to_, ca, depth, mark⟩ := c
            obtain ⟨xs, xk⟩ := x
            dsimp only at e0 e1 e2 e3 e4 e5 e6 e7 hls
            have HST := Lib.hid hst; clear hst
            have hbw : b < wr.heap.size := Nat.lt_of_lt_of_le hb H.b.size
            have hbw1 : b1 < wr.heap.size := Nat.lt_of_lt_of_le hb1 H.b.size
            go_wp2_with fail
            clear e0 e1 e2 e3 e4 e5 e6 e7 F
            (refine wp_region_quiet (C := fun W => Hp w W [box w.heap.size 28 [.slice (some ⟨b, off, none⟩) n1 c0, .slice (some ⟨b1, off1, none⟩) n1 c1, .slice A2 n2 c2]]) (by kernel_rfl) (by kernel_rfl) (by show Hp _ (World.drew _) _; exact (by repeat (first | (with_reducible exact H) | (with_reducible apply Hp.alloc) | (with_reducible apply Hp.set) | (with_reducible apply Hp.drew) | (with_reducible apply Hp.drewN) | (with_reducible apply Hp.bytesW) | (with_reducible exact Upd.here) | (with_reducible exact Upd.hereR) | (with_reducible apply Upd.there) | (with_reducible apply Sz.alloc) | (with_reducible apply Sz.set) | (with_reducible apply Sz.drew) | (with_reducible apply Sz.drewN) | (with_reducible apply Sz.bytesW) | (with_reducible assumption) | (with_reducible exact Sz.base _)))) ?_; (repeat (first | go_big_quiet_skip | (refine BigFrame.wpQuiet_want (by rfl) (fun K hK => ?_); unfold Oper.quiet; apply Exists.intro; refine ⟨fun W hW => ?_, hK _ ?_⟩; (focus (have G := hW.facts; simp only [Facts, NeF, box, row, reg, cellsF, ne_eq, true_and, and_true, Nat.reduceAdd, Nat.zero_add] at G; obtain ⟨e0, e1, e2, e3, e4, e5, e6, e7⟩ := HCS.out _ _ hW; obtain ⟨k0, k1⟩ := HKS.out _ _ hW; (try have q0 := HQS.out _ _ hW); go_simp; first | rfl | (first | (go_at_call 21; refine (specCertOk_any ⟨ser, owner, iss, from_, to_, ca, depth, mark⟩ _ hls).mono ?_; rintro e w1 ⟨rfl, hb1⟩; rw [h1]; exact ⟨rfl, hW.step hb1⟩) | (go_at_call 22; refine (l04Key_any _ _).mono ?_; rintro e w1 ⟨rfl, rfl⟩; rw [h5]; exact ⟨rfl, hW⟩)))); clear hK K; simp only [Act.put, List.setIfInBounds_toArray, List.set_cons_zero, List.set_cons_succ]))); refine wpQuiet_nil ?_; intro wq H; have F := H.facts; simp only [Facts, NeF, box, row, reg, cellsF, ne_eq, true_and, and_true, Nat.reduceAdd, Nat.zero_add] at F)
            all_goals
              go_wp2_with fail
              go_ret
              exact ⟨by rw [HN.out]; rfl, Hp.b (by repeat (first | (with_reducible exact H) | (with_reducible apply Hp.alloc) | (with_reducible apply Hp.set) | (with_reducible apply Hp.drew) | (with_reducible apply Hp.drewN) | (with_reducible apply Hp.bytesW) | (with_reducible exact Upd.here) | (with_reducible exact Upd.hereR) | (with_reducible apply Upd.there) | (with_reducible apply Sz.alloc) | (with_reducible apply Sz.set) | (with_reducible apply Sz.drew) | (with_reducible apply Sz.drewN) | (with_reducible apply Sz.bytesW) | (with_reducible assumption) | (with_reducible exact Sz.base _)))⟩
          replace h4 : x.ser = c.ser := by simpa using h4
          have h4i : (x.ser != c.ser) = false := by simpa using h4
          have h4d : decide (x.ser = c.ser) = true := decide_eq_true h4
          cases h5 : inR x.key 0 1099511627776 with
          | false =>
            have HN : Hid (pileOk cs ks ds = false) := pileOk_d (by rw [hn0]; exact pileRise_no hlt (by rw [hst]; simp [keyOk, h5]))
            (try clear hkz)
            have HCS := Lib.hid hcs; clear hcs
            have HKS := Lib.hid hks; clear hks
            obtain ⟨e0, e1, e2, e3, e4, e5, e6, e7⟩ := HCS.out _ _ H
            obtain ⟨ser, owner, iss, from_, to_, ca, depth, mark⟩ := c
            obtain ⟨xs, xk⟩ := x
            dsimp only at e0 e1 e2 e3 e4 e5 e6 e7 hls
            have HST := Lib.hid hst; clear hst
            have hbw : b < wr.heap.size := Nat.lt_of_lt_of_le hb H.b.size
            have hbw1 : b1 < wr.heap.size := Nat.lt_of_lt_of_le hb1 H.b.size
            go_wp2_with fail
            clear e0 e1 e2 e3 e4 e5 e6 e7 F
            (refine wp_region_quiet (C := fun W => Hp w W [box w.heap.size 28 [.slice (some ⟨b, off, none⟩) n1 c0, .slice (some ⟨b1, off1, none⟩) n1 c1, .slice A2 n2 c2]]) (by kernel_rfl) (by kernel_rfl) (by show Hp _ (World.drew _) _; exact (by repeat (first | (with_reducible exact H) | (with_reducible apply Hp.alloc) | (with_reducible apply Hp.set) | (with_reducible apply Hp.drew) | (with_reducible apply Hp.drewN) | (with_reducible apply Hp.bytesW) | (with_reducible exact Upd.here) | (with_reducible exact Upd.hereR) | (with_reducible apply Upd.there) | (with_reducible apply Sz.alloc) | (with_reducible apply Sz.set) | (with_reducible apply Sz.drew) | (with_reducible apply Sz.drewN) | (with_reducible apply Sz.bytesW) | (with_reducible assumption) | (with_reducible exact Sz.base _)))) ?_; (repeat (first | go_big_quiet_skip | (refine BigFrame.wpQuiet_want (by rfl) (fun K hK => ?_); unfold Oper.quiet; apply Exists.intro; refine ⟨fun W hW => ?_, hK _ ?_⟩; (focus (have G := hW.facts; simp only [Facts, NeF, box, row, reg, cellsF, ne_eq, true_and, and_true, Nat.reduceAdd, Nat.zero_add] at G; obtain ⟨e0, e1, e2, e3, e4, e5, e6, e7⟩ := HCS.out _ _ hW; obtain ⟨k0, k1⟩ := HKS.out _ _ hW; (try have q0 := HQS.out _ _ hW); go_simp; first | rfl | (first | (go_at_call 21; refine (specCertOk_any ⟨ser, owner, iss, from_, to_, ca, depth, mark⟩ _ hls).mono ?_; rintro e w1 ⟨rfl, hb1⟩; rw [h1]; exact ⟨rfl, hW.step hb1⟩) | (go_at_call 22; refine (l04Key_any _ _).mono ?_; rintro e w1 ⟨rfl, rfl⟩; rw [h5]; exact ⟨rfl, hW⟩)))); clear hK K; simp only [Act.put, List.setIfInBounds_toArray, List.set_cons_zero, List.set_cons_succ]))); refine wpQuiet_nil ?_; intro wq H; have F := H.facts; simp only [Facts, NeF, box, row, reg, cellsF, ne_eq, true_and, and_true, Nat.reduceAdd, Nat.zero_add] at F)
            all_goals
              go_wp2_with fail
              go_ret
              exact ⟨by rw [HN.out]; rfl, Hp.b (by repeat (first | (with_reducible exact H) | (with_reducible apply Hp.alloc) | (with_reducible apply Hp.set) | (with_reducible apply Hp.drew) | (with_reducible apply Hp.drewN) | (with_reducible apply Hp.bytesW) | (with_reducible exact Upd.here) | (with_reducible exact Upd.hereR) | (with_reducible apply Upd.there) | (with_reducible apply Sz.alloc) | (with_reducible apply Sz.set) | (with_reducible apply Sz.drew) | (with_reducible apply Sz.drewN) | (with_reducible apply Sz.bytesW) | (with_reducible assumption) | (with_reducible exact Sz.base _)))⟩
          | true =>
            have HN : Hid (pileRise cs ks (k + 1) = true) := pileRise_snoc HR.out (by rw [hst, h1]; simp [keyOk, h4, h5]; omega)
            (try clear hkz)
            have HCS := Lib.hid hcs; clear hcs
            have HKS := Lib.hid hks; clear hks
            obtain ⟨e0, e1, e2, e3, e4, e5, e6, e7⟩ := HCS.out _ _ H
            obtain ⟨ser, owner, iss, from_, to_, ca, depth, mark⟩ := c
            obtain ⟨xs, xk⟩ := x
            dsimp only at e0 e1 e2 e3 e4 e5 e6 e7 hls
            have HST := Lib.hid hst; clear hst
            have hbw : b < wr.heap.size := Nat.lt_of_lt_of_le hb H.b.size
            have hbw1 : b1 < wr.heap.size := Nat.lt_of_lt_of_le hb1 H.b.size
            go_wp2_with fail
            clear e0 e1 e2 e3 e4 e5 e6 e7 F
            (refine wp_region_quiet (C := fun W => Hp w W [box w.heap.size 28 [.slice (some ⟨b, off, none⟩) n1 c0, .slice (some ⟨b1, off1, none⟩) n1 c1, .slice A2 n2 c2]]) (by kernel_rfl) (by kernel_rfl) (by show Hp _ (World.drew _) _; exact (by repeat (first | (with_reducible exact H) | (with_reducible apply Hp.alloc) | (with_reducible apply Hp.set) | (with_reducible apply Hp.drew) | (with_reducible apply Hp.drewN) | (with_reducible apply Hp.bytesW) | (with_reducible exact Upd.here) | (with_reducible exact Upd.hereR) | (with_reducible apply Upd.there) | (with_reducible apply Sz.alloc) | (with_reducible apply Sz.set) | (with_reducible apply Sz.drew) | (with_reducible apply Sz.drewN) | (with_reducible apply Sz.bytesW) | (with_reducible assumption) | (with_reducible exact Sz.base _)))) ?_; (repeat (first | go_big_quiet_skip | (refine BigFrame.wpQuiet_want (by rfl) (fun K hK => ?_); unfold Oper.quiet; apply Exists.intro; refine ⟨fun W hW => ?_, hK _ ?_⟩; (focus (have G := hW.facts; simp only [Facts, NeF, box, row, reg, cellsF, ne_eq, true_and, and_true, Nat.reduceAdd, Nat.zero_add] at G; obtain ⟨e0, e1, e2, e3, e4, e5, e6, e7⟩ := HCS.out _ _ hW; obtain ⟨k0, k1⟩ := HKS.out _ _ hW; (try have q0 := HQS.out _ _ hW); go_simp; first | rfl | (first | (go_at_call 21; refine (specCertOk_any ⟨ser, owner, iss, from_, to_, ca, depth, mark⟩ _ hls).mono ?_; rintro e w1 ⟨rfl, hb1⟩; rw [h1]; exact ⟨rfl, hW.step hb1⟩) | (go_at_call 22; refine (l04Key_any _ _).mono ?_; rintro e w1 ⟨rfl, rfl⟩; rw [h5]; exact ⟨rfl, hW⟩)))); clear hK K; simp only [Act.put, List.setIfInBounds_toArray, List.set_cons_zero, List.set_cons_succ]))); refine wpQuiet_nil ?_; intro wq H; have F := H.facts; simp only [Facts, NeF, box, row, reg, cellsF, ne_eq, true_and, and_true, Nat.reduceAdd, Nat.zero_add] at F)
            all_goals
              go_wp2_with fail
              go_roundw
              case rel => exact ⟨k + 1, by omega, by go_num, HN, Lib.hid (by refine Hp.sel (by repeat (first | (with_reducible exact H) | (with_reducible apply Hp.alloc) | (with_reducible apply Hp.set) | (with_reducible apply Hp.drew) | (with_reducible apply Hp.drewN) | (with_reducible apply Hp.bytesW) | (with_reducible exact Upd.here) | (with_reducible exact Upd.hereR) | (with_reducible apply Upd.there) | (with_reducible apply Sz.alloc) | (with_reducible apply Sz.set) | (with_reducible apply Sz.drew) | (with_reducible apply Sz.drewN) | (with_reducible apply Sz.bytesW) | (with_reducible assumption) | (with_reducible exact Sz.base _))) ?_; (try simp only [List.set_cons_zero, List.set_cons_succ]); exact (by repeat (first | (with_reducible exact Sel.nil) | (with_reducible apply Sel.cons) | (with_reducible exact Del.here) | (with_reducible apply Del.there))))⟩
              case measure => simp [intOf]; omega
    · have HF : Hid (pileRise cs ks n1 = true) := by rw [show n1 = k by omega]; exact HR
      go_wp2_with fail
      go_ret
      exact ⟨by rw [HE.out, HF.out]; rfl, H.b⟩
end Go.Proofs.YtlblkpcjknjijaaGreatDoor

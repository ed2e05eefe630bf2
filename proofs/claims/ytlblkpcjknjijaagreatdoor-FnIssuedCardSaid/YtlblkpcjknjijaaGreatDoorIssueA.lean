/- The issue of a certificate: whether the issuer may (the program's). No condition. -/
import Derived.Test.YtlblkpcjknjijaaGreatDoorIssueP
import Derived.Test.YtlblkpcjknjijaaGreatDoorMarkC
import Derived.Test.YtlblkpcjknjijaaGreatDoorM4
import Derived.Test.YtlblkpcjknjijaaGreatDoorPileC
import Derived.Test.YtlblkpcjknjijaaGreatDoorPileD
set_option linter.unusedVariables false
set_option linter.unusedSimpArgs false
namespace Go.Proofs.YtlblkpcjknjijaaGreatDoor
open Go.RowKit
set_option linter.unusedVariables false
set_option linter.unusedSimpArgs false
set_option maxHeartbeats 2000000 in
theorem isAbv_any (up c : Cert) (w : World) :
    Calls Tryz.prog 64 #[valCert up, valCert c] w fun e w' => e = .returned (.bool (aboveC up c)) ∧ Below w.heap.size w w' := by
  obtain ⟨ser, owner, iss, from_, to_, ca, depth, mark⟩ := up
  obtain ⟨ser2, owner2, iss2, from2, to2, ca2, depth2, mark2⟩ := c
  have H := Hp.nil w
  have HR : Hid (aboveC ⟨ser, owner, iss, from_, to_, ca, depth, mark⟩ ⟨ser2, owner2, iss2, from2, to2, ca2, depth2, mark2⟩ = (ca && (!ca2 || decide (depth2 < depth)))) := rfl
  rw [HR.out]
  clear HR
  cases ca with
  | false =>
    go_enter Tryz.func64, Tryz.ntmps64
    go_wp2
    go_ret
    exact ⟨rfl, Hp.b (by with_reducible repeat (first | exact H | apply Hp.alloc | apply Hp.set | apply Hp.drew | apply Hp.drewN | apply Hp.bytesW | exact Upd.here | exact Upd.hereR | apply Upd.there | apply Sz.alloc | apply Sz.set | apply Sz.drew | apply Sz.drewN | apply Sz.bytesW | assumption | exact Sz.base _))⟩
  | true =>
  cases ca2 with
  | false =>
    go_enter Tryz.func64, Tryz.ntmps64
    go_wp2
    go_ret
    exact ⟨rfl, Hp.b (by with_reducible repeat (first | exact H | apply Hp.alloc | apply Hp.set | apply Hp.drew | apply Hp.drewN | apply Hp.bytesW | exact Upd.here | exact Upd.hereR | apply Upd.there | apply Sz.alloc | apply Sz.set | apply Sz.drew | apply Sz.drewN | apply Sz.bytesW | assumption | exact Sz.base _))⟩
  | true =>
    go_enter Tryz.func64, Tryz.ntmps64
    go_wp2
    go_ret
    exact ⟨by simp, Hp.b (by with_reducible repeat (first | exact H | apply Hp.alloc | apply Hp.set | apply Hp.drew | apply Hp.drewN | apply Hp.bytesW | exact Upd.here | exact Upd.hereR | apply Upd.there | apply Sz.alloc | apply Sz.set | apply Sz.drew | apply Sz.drewN | apply Sz.bytesW | assumption | exact Sz.base _))⟩
set_option maxHeartbeats 8000000 in
set_option maxRecDepth 10000 in
theorem mayIssue_any (A0 : Option Addr) (n0 c0 : Nat) (cs : List Cert) (A1 : Option Addr) (n1 c1 : Nat) (ks : List CertKey) (A2 : Option Addr) (n2 c2 : Nat) (ds : List Int) (c : Cert) (w : World) (hok : pileOk cs ks ds = true) (hr0 : Rd w w.heap.size 8 A0 n0 c0 (cs.flatMap encCert)) (hn0 : cs.length = n0) (hb0 : n0 ≤ 1048576) (hsz : ∀ u ∈ cs, CertFits u) (hr1 : Rd w w.heap.size 2 A1 n1 c1 (ks.flatMap encCertKey)) (hn1 : ks.length = n1) (hr2 : Rd w w.heap.size 1 A2 n2 c2 (ds.flatMap encInt)) (hn2 : ds.length = n2) (hco : c.owner.size ≤ maxLen) (hml : mlOk w) :
    Calls Tryz.prog 33 #[pileV A0 n0 c0 A1 n1 c1 A2 n2 c2, valCert c] w fun e w' => e = .returned (.int .i64 (mayU cs c)) ∧ Below w.heap.size w w' := by
  subst hn0 hn1 hn2
  have H := Hp.nil w
  obtain ⟨-, hkl, -, -, -⟩ := pile_iff hok
  have HM := Lib.hid (ser_mono hok c.iss)
  have HOK := Lib.hid hok
  clear hok
  obtain ⟨r, hr⟩ : ∃ r, mayU cs c = r := ⟨_, rfl⟩
  rw [hr]
  by_cases hi0 : c.iss = 0
  · have HE : Hid (0 = r) := by show _ = _; rw [← hr, may_root hi0]
    obtain ⟨ser2, owner2, iss2, from2, to2, ca2, depth2, mark2⟩ := c
    dsimp only at hi0
    subst hi0
    clear hr hkl
    go_enter Tryz.func33, Tryz.ntmps33
    go_wp2_with fail
    go_ret
    exact ⟨by rw [← HE.out]; rfl, Hp.b (by with_reducible repeat (first | exact H | apply Hp.alloc | apply Hp.set | apply Hp.drew | apply Hp.drewN | apply Hp.bytesW | exact Upd.here | exact Upd.hereR | apply Upd.there | apply Sz.alloc | apply Sz.set | apply Sz.drew | apply Sz.drewN | apply Sz.bytesW | assumption | exact Sz.base _))⟩
  have hib : (c.iss == 0) = false := beq_eq_false_iff_ne.2 hi0
  have hic : decide (c.iss = 0) = false := decide_eq_false hi0
  rcases ixP_spec (hasSer c.iss) cs 0 with ⟨h2, h3⟩ | ⟨i, hi, h2, h3, -⟩
  · have hbs : bsHit (cfSer c.iss) cs = false := by
      rw [bsHit_any HOK.out, ← Bool.not_eq_true, anyP, List.any_eq_true]
      rintro ⟨u, hu, hu2⟩
      rw [h3 u hu] at hu2; cases hu2
    have hba : bsAt (cfSer c.iss) cs = bsAt (cfSer c.iss) cs := rfl
    have HE : Hid (2 = r) := by show _ = _; rw [← hr, may_none hi0 h2]
    obtain ⟨ser2, owner2, iss2, from2, to2, ca2, depth2, mark2⟩ := c
    clear h2 h3 hba hr hkl
    go_enter Tryz.func33, Tryz.ntmps33
    go_wp2_with (go_at_call 32; refine (certIndex_any A0 cs.length c0 cs A1 ks.length c1 A2 ds.length c2 iss2 _ (hr0.grow (Hp.b (by with_reducible repeat (first | exact H | apply Hp.alloc | apply Hp.set | apply Hp.drew | apply Hp.drewN | apply Hp.bytesW | exact Upd.here | exact Upd.hereR | apply Upd.there | apply Sz.alloc | apply Sz.set | apply Sz.drew | apply Sz.drewN | apply Sz.bytesW | assumption | exact Sz.base _)))) rfl hb0 HM.out).mono ?_; rintro e w3 ⟨rfl, q1⟩; rw [hbs]; (try rw [hba]); replace H := Hp.step (by with_reducible repeat (first | exact H | apply Hp.alloc | apply Hp.set | apply Hp.drew | apply Hp.drewN | apply Hp.bytesW | exact Upd.here | exact Upd.hereR | apply Upd.there | apply Sz.alloc | apply Sz.set | apply Sz.drew | apply Sz.drewN | apply Sz.bytesW | assumption | exact Sz.base _)) q1; (try simp only [List.set_cons_zero, List.set_cons_succ, List.cons_append, List.nil_append] at H); clear q1; have F := H.facts; simp only [Facts, NeF, box, row, reg, cellsF, rCert, rCertKey, rInt, ne_eq, true_and, and_true, Nat.reduceAdd, Nat.zero_add] at F)
    go_ret
    exact ⟨by rw [← HE.out]; rfl, Hp.b (by with_reducible repeat (first | exact H | apply Hp.alloc | apply Hp.set | apply Hp.drew | apply Hp.drewN | apply Hp.bytesW | exact Upd.here | exact Upd.hereR | apply Upd.there | apply Sz.alloc | apply Sz.set | apply Sz.drew | apply Sz.drewN | apply Sz.bytesW | assumption | exact Sz.base _))⟩
  have hbs : bsHit (cfSer c.iss) cs = true := by
    rw [bsHit_any HOK.out, anyP, List.any_eq_true]; exact ⟨_, List.getElem_mem hi, h3⟩
  have hba : bsAt (cfSer c.iss) cs = i := bsAt_of HOK.out hi (by simpa [hasSer] using h3)
  have h2 : ixP (hasSer c.iss) cs 0 = (i : Int) := by rw [h2]; simp
  have HR : Hid (upChk cs[i] c = r) := by show _ = _; rw [← hr, may_hit hi0 hi h2]
  clear h2 h3 hr hkl
  have hx0 : (0 : Int) ≤ (i : Int) := by omega
  have hx1 : (i : Int) < (cs.length : Int) := by omega
  obtain ⟨b, off, rfl, hb⟩ := Rd.atC encCert_len hr0 rfl (by omega)
  have hcs : ∀ (W : World) (L : List Ent), Hp w W L → _ := fun W L h => Rd.certAt hr0 rfl (k := i) hi rfl W h.b
  have HCS := Lib.hid hcs; clear hcs
  have hsow : cs[i].owner.size ≤ maxLen := hsz _ (List.getElem_mem _)
  generalize hcc : cs[i] = up at *
  clear hcc
  have HAB : Hid (∀ W, Calls Tryz.prog 64 #[valCert up, valCert c] W fun e w' => e = .returned (.bool (aboveC up c)) ∧ Below W.heap.size W w') := fun W => isAbv_any up c W
  cases hab : aboveC up c with
  | false =>
    have HE : Hid (5 = r) := by show _ = _; rw [← HR.out, upChk, if_pos hab]
    obtain ⟨ser, owner, iss, from_, to_, ca, depth, mark⟩ := up
    obtain ⟨ser2, owner2, iss2, from2, to2, ca2, depth2, mark2⟩ := c
    dsimp only [valCert] at *
    clear HR
    have hud : True := trivial
    go_enter Tryz.func33, Tryz.ntmps33
    go_wp2_with (first | (go_at_call 32; refine (certIndex_any (some ⟨b, off, none⟩) cs.length c0 cs A1 ks.length c1 A2 ds.length c2 iss2 _ (hr0.grow (Hp.b (by with_reducible repeat (first | exact H | apply Hp.alloc | apply Hp.set | apply Hp.drew | apply Hp.drewN | apply Hp.bytesW | exact Upd.here | exact Upd.hereR | apply Upd.there | apply Sz.alloc | apply Sz.set | apply Sz.drew | apply Sz.drewN | apply Sz.bytesW | assumption | exact Sz.base _)))) rfl hb0 HM.out).mono ?_; rintro e w3 ⟨rfl, q1⟩; rw [hbs]; (try rw [hba]); replace H := Hp.step (by with_reducible repeat (first | exact H | apply Hp.alloc | apply Hp.set | apply Hp.drew | apply Hp.drewN | apply Hp.bytesW | exact Upd.here | exact Upd.hereR | apply Upd.there | apply Sz.alloc | apply Sz.set | apply Sz.drew | apply Sz.drewN | apply Sz.bytesW | assumption | exact Sz.base _)) q1; (try simp only [List.set_cons_zero, List.set_cons_succ, List.cons_append, List.nil_append] at H); clear q1; have F := H.facts; simp only [Facts, NeF, box, row, reg, cellsF, rCert, rCertKey, rInt, ne_eq, true_and, and_true, Nat.reduceAdd, Nat.zero_add] at F; obtain ⟨e0, e1, e2, e3, e4, e5, e6, e7⟩ := HCS.out _ _ H; have hbw3 : b < w3.heap.size := Nat.lt_of_lt_of_le hb H.b.size; have hbe3 : ¬ b = w3.heap.size ∧ ¬ w3.heap.size = b := (by omega)) | (go_at_call 64; refine (HAB.out _).mono ?_; rintro e w4 ⟨rfl, q1⟩; rw [hab]; replace H := Hp.step (by with_reducible repeat (first | exact H | apply Hp.alloc | apply Hp.set | apply Hp.drew | apply Hp.drewN | apply Hp.bytesW | exact Upd.here | exact Upd.hereR | apply Upd.there | apply Sz.alloc | apply Sz.set | apply Sz.drew | apply Sz.drewN | apply Sz.bytesW | assumption | exact Sz.base _)) q1; (try simp only [List.set_cons_zero, List.set_cons_succ, List.cons_append, List.nil_append] at H); clear q1 F; have F := H.facts; simp only [Facts, NeF, box, row, reg, cellsF, rCert, rCertKey, rInt, ne_eq, true_and, and_true, Nat.reduceAdd, Nat.zero_add] at F) | (go_at_call 65; refine (implUnder_any owner owner2 _ hsow hco (hml.on (Hp.b (by with_reducible repeat (first | exact H | apply Hp.alloc | apply Hp.set | apply Hp.drew | apply Hp.drewN | apply Hp.bytesW | exact Upd.here | exact Upd.hereR | apply Upd.there | apply Sz.alloc | apply Sz.set | apply Sz.drew | apply Sz.drewN | apply Sz.bytesW | assumption | exact Sz.base _))))).mono ?_; rintro e w5 ⟨rfl, q1⟩; rw [hud]; replace H := Hp.step (by with_reducible repeat (first | exact H | apply Hp.alloc | apply Hp.set | apply Hp.drew | apply Hp.drewN | apply Hp.bytesW | exact Upd.here | exact Upd.hereR | apply Upd.there | apply Sz.alloc | apply Sz.set | apply Sz.drew | apply Sz.drewN | apply Sz.bytesW | assumption | exact Sz.base _)) q1; (try simp only [List.set_cons_zero, List.set_cons_succ, List.cons_append, List.nil_append] at H); clear q1 F; have F := H.facts; simp only [Facts, NeF, box, row, reg, cellsF, rCert, rCertKey, rInt, ne_eq, true_and, and_true, Nat.reduceAdd, Nat.zero_add] at F))
    all_goals
      go_ret
      exact ⟨by rw [← HE.out]; rfl, Hp.b (by with_reducible repeat (first | exact H | apply Hp.alloc | apply Hp.set | apply Hp.drew | apply Hp.drewN | apply Hp.bytesW | exact Upd.here | exact Upd.hereR | apply Upd.there | apply Sz.alloc | apply Sz.set | apply Sz.drew | apply Sz.drewN | apply Sz.bytesW | assumption | exact Sz.base _))⟩
  | true =>
  cases hud : underF up.owner c.owner with
  | false =>
    have HE : Hid (6 = r) := by show _ = _; rw [← HR.out, upChk, if_neg (by rw [hab]; decide), if_pos hud]
    obtain ⟨ser, owner, iss, from_, to_, ca, depth, mark⟩ := up
    obtain ⟨ser2, owner2, iss2, from2, to2, ca2, depth2, mark2⟩ := c
    dsimp only [valCert] at *
    clear HR
    go_enter Tryz.func33, Tryz.ntmps33
    go_wp2_with (first | (go_at_call 32; refine (certIndex_any (some ⟨b, off, none⟩) cs.length c0 cs A1 ks.length c1 A2 ds.length c2 iss2 _ (hr0.grow (Hp.b (by with_reducible repeat (first | exact H | apply Hp.alloc | apply Hp.set | apply Hp.drew | apply Hp.drewN | apply Hp.bytesW | exact Upd.here | exact Upd.hereR | apply Upd.there | apply Sz.alloc | apply Sz.set | apply Sz.drew | apply Sz.drewN | apply Sz.bytesW | assumption | exact Sz.base _)))) rfl hb0 HM.out).mono ?_; rintro e w3 ⟨rfl, q1⟩; rw [hbs]; (try rw [hba]); replace H := Hp.step (by with_reducible repeat (first | exact H | apply Hp.alloc | apply Hp.set | apply Hp.drew | apply Hp.drewN | apply Hp.bytesW | exact Upd.here | exact Upd.hereR | apply Upd.there | apply Sz.alloc | apply Sz.set | apply Sz.drew | apply Sz.drewN | apply Sz.bytesW | assumption | exact Sz.base _)) q1; (try simp only [List.set_cons_zero, List.set_cons_succ, List.cons_append, List.nil_append] at H); clear q1; have F := H.facts; simp only [Facts, NeF, box, row, reg, cellsF, rCert, rCertKey, rInt, ne_eq, true_and, and_true, Nat.reduceAdd, Nat.zero_add] at F; obtain ⟨e0, e1, e2, e3, e4, e5, e6, e7⟩ := HCS.out _ _ H; have hbw3 : b < w3.heap.size := Nat.lt_of_lt_of_le hb H.b.size; have hbe3 : ¬ b = w3.heap.size ∧ ¬ w3.heap.size = b := (by omega)) | (go_at_call 64; refine (HAB.out _).mono ?_; rintro e w4 ⟨rfl, q1⟩; rw [hab]; replace H := Hp.step (by with_reducible repeat (first | exact H | apply Hp.alloc | apply Hp.set | apply Hp.drew | apply Hp.drewN | apply Hp.bytesW | exact Upd.here | exact Upd.hereR | apply Upd.there | apply Sz.alloc | apply Sz.set | apply Sz.drew | apply Sz.drewN | apply Sz.bytesW | assumption | exact Sz.base _)) q1; (try simp only [List.set_cons_zero, List.set_cons_succ, List.cons_append, List.nil_append] at H); clear q1 F; have F := H.facts; simp only [Facts, NeF, box, row, reg, cellsF, rCert, rCertKey, rInt, ne_eq, true_and, and_true, Nat.reduceAdd, Nat.zero_add] at F) | (go_at_call 65; refine (implUnder_any owner owner2 _ hsow hco (hml.on (Hp.b (by with_reducible repeat (first | exact H | apply Hp.alloc | apply Hp.set | apply Hp.drew | apply Hp.drewN | apply Hp.bytesW | exact Upd.here | exact Upd.hereR | apply Upd.there | apply Sz.alloc | apply Sz.set | apply Sz.drew | apply Sz.drewN | apply Sz.bytesW | assumption | exact Sz.base _))))).mono ?_; rintro e w5 ⟨rfl, q1⟩; rw [hud]; replace H := Hp.step (by with_reducible repeat (first | exact H | apply Hp.alloc | apply Hp.set | apply Hp.drew | apply Hp.drewN | apply Hp.bytesW | exact Upd.here | exact Upd.hereR | apply Upd.there | apply Sz.alloc | apply Sz.set | apply Sz.drew | apply Sz.drewN | apply Sz.bytesW | assumption | exact Sz.base _)) q1; (try simp only [List.set_cons_zero, List.set_cons_succ, List.cons_append, List.nil_append] at H); clear q1 F; have F := H.facts; simp only [Facts, NeF, box, row, reg, cellsF, rCert, rCertKey, rInt, ne_eq, true_and, and_true, Nat.reduceAdd, Nat.zero_add] at F))
    all_goals
      go_ret
      exact ⟨by rw [← HE.out]; rfl, Hp.b (by with_reducible repeat (first | exact H | apply Hp.alloc | apply Hp.set | apply Hp.drew | apply Hp.drewN | apply Hp.bytesW | exact Upd.here | exact Upd.hereR | apply Upd.there | apply Sz.alloc | apply Sz.set | apply Sz.drew | apply Sz.drewN | apply Sz.bytesW | assumption | exact Sz.base _))⟩
  | true =>
  by_cases ht : c.from_ < up.from_ ∨ up.to_ < c.to_
  · have HE : Hid (3 = r) := by show _ = _; rw [← HR.out, upChk, if_neg (by rw [hab]; decide), if_neg (by rw [hud]; decide), if_pos ht]
    obtain ⟨ser, owner, iss, from_, to_, ca, depth, mark⟩ := up
    obtain ⟨ser2, owner2, iss2, from2, to2, ca2, depth2, mark2⟩ := c
    dsimp only [valCert] at *
    clear HR
    rcases (inferInstance : Decidable (from2 < from_)) with hf | hf
    · have ht2 : to_ < to2 := by rcases ht with h | h; exact absurd h hf; exact h
      clear ht
      go_enter Tryz.func33, Tryz.ntmps33
      go_wp2_with (first | (go_at_call 32; refine (certIndex_any (some ⟨b, off, none⟩) cs.length c0 cs A1 ks.length c1 A2 ds.length c2 iss2 _ (hr0.grow (Hp.b (by with_reducible repeat (first | exact H | apply Hp.alloc | apply Hp.set | apply Hp.drew | apply Hp.drewN | apply Hp.bytesW | exact Upd.here | exact Upd.hereR | apply Upd.there | apply Sz.alloc | apply Sz.set | apply Sz.drew | apply Sz.drewN | apply Sz.bytesW | assumption | exact Sz.base _)))) rfl hb0 HM.out).mono ?_; rintro e w3 ⟨rfl, q1⟩; rw [hbs]; (try rw [hba]); replace H := Hp.step (by with_reducible repeat (first | exact H | apply Hp.alloc | apply Hp.set | apply Hp.drew | apply Hp.drewN | apply Hp.bytesW | exact Upd.here | exact Upd.hereR | apply Upd.there | apply Sz.alloc | apply Sz.set | apply Sz.drew | apply Sz.drewN | apply Sz.bytesW | assumption | exact Sz.base _)) q1; (try simp only [List.set_cons_zero, List.set_cons_succ, List.cons_append, List.nil_append] at H); clear q1; have F := H.facts; simp only [Facts, NeF, box, row, reg, cellsF, rCert, rCertKey, rInt, ne_eq, true_and, and_true, Nat.reduceAdd, Nat.zero_add] at F; obtain ⟨e0, e1, e2, e3, e4, e5, e6, e7⟩ := HCS.out _ _ H; have hbw3 : b < w3.heap.size := Nat.lt_of_lt_of_le hb H.b.size; have hbe3 : ¬ b = w3.heap.size ∧ ¬ w3.heap.size = b := (by omega)) | (go_at_call 64; refine (HAB.out _).mono ?_; rintro e w4 ⟨rfl, q1⟩; rw [hab]; replace H := Hp.step (by with_reducible repeat (first | exact H | apply Hp.alloc | apply Hp.set | apply Hp.drew | apply Hp.drewN | apply Hp.bytesW | exact Upd.here | exact Upd.hereR | apply Upd.there | apply Sz.alloc | apply Sz.set | apply Sz.drew | apply Sz.drewN | apply Sz.bytesW | assumption | exact Sz.base _)) q1; (try simp only [List.set_cons_zero, List.set_cons_succ, List.cons_append, List.nil_append] at H); clear q1 F; have F := H.facts; simp only [Facts, NeF, box, row, reg, cellsF, rCert, rCertKey, rInt, ne_eq, true_and, and_true, Nat.reduceAdd, Nat.zero_add] at F) | (go_at_call 65; refine (implUnder_any owner owner2 _ hsow hco (hml.on (Hp.b (by with_reducible repeat (first | exact H | apply Hp.alloc | apply Hp.set | apply Hp.drew | apply Hp.drewN | apply Hp.bytesW | exact Upd.here | exact Upd.hereR | apply Upd.there | apply Sz.alloc | apply Sz.set | apply Sz.drew | apply Sz.drewN | apply Sz.bytesW | assumption | exact Sz.base _))))).mono ?_; rintro e w5 ⟨rfl, q1⟩; rw [hud]; replace H := Hp.step (by with_reducible repeat (first | exact H | apply Hp.alloc | apply Hp.set | apply Hp.drew | apply Hp.drewN | apply Hp.bytesW | exact Upd.here | exact Upd.hereR | apply Upd.there | apply Sz.alloc | apply Sz.set | apply Sz.drew | apply Sz.drewN | apply Sz.bytesW | assumption | exact Sz.base _)) q1; (try simp only [List.set_cons_zero, List.set_cons_succ, List.cons_append, List.nil_append] at H); clear q1 F; have F := H.facts; simp only [Facts, NeF, box, row, reg, cellsF, rCert, rCertKey, rInt, ne_eq, true_and, and_true, Nat.reduceAdd, Nat.zero_add] at F))
      all_goals
        go_ret
        exact ⟨by rw [← HE.out]; rfl, Hp.b (by with_reducible repeat (first | exact H | apply Hp.alloc | apply Hp.set | apply Hp.drew | apply Hp.drewN | apply Hp.bytesW | exact Upd.here | exact Upd.hereR | apply Upd.there | apply Sz.alloc | apply Sz.set | apply Sz.drew | apply Sz.drewN | apply Sz.bytesW | assumption | exact Sz.base _))⟩
    · clear ht
      go_enter Tryz.func33, Tryz.ntmps33
      go_wp2_with (first | (go_at_call 32; refine (certIndex_any (some ⟨b, off, none⟩) cs.length c0 cs A1 ks.length c1 A2 ds.length c2 iss2 _ (hr0.grow (Hp.b (by with_reducible repeat (first | exact H | apply Hp.alloc | apply Hp.set | apply Hp.drew | apply Hp.drewN | apply Hp.bytesW | exact Upd.here | exact Upd.hereR | apply Upd.there | apply Sz.alloc | apply Sz.set | apply Sz.drew | apply Sz.drewN | apply Sz.bytesW | assumption | exact Sz.base _)))) rfl hb0 HM.out).mono ?_; rintro e w3 ⟨rfl, q1⟩; rw [hbs]; (try rw [hba]); replace H := Hp.step (by with_reducible repeat (first | exact H | apply Hp.alloc | apply Hp.set | apply Hp.drew | apply Hp.drewN | apply Hp.bytesW | exact Upd.here | exact Upd.hereR | apply Upd.there | apply Sz.alloc | apply Sz.set | apply Sz.drew | apply Sz.drewN | apply Sz.bytesW | assumption | exact Sz.base _)) q1; (try simp only [List.set_cons_zero, List.set_cons_succ, List.cons_append, List.nil_append] at H); clear q1; have F := H.facts; simp only [Facts, NeF, box, row, reg, cellsF, rCert, rCertKey, rInt, ne_eq, true_and, and_true, Nat.reduceAdd, Nat.zero_add] at F; obtain ⟨e0, e1, e2, e3, e4, e5, e6, e7⟩ := HCS.out _ _ H; have hbw3 : b < w3.heap.size := Nat.lt_of_lt_of_le hb H.b.size; have hbe3 : ¬ b = w3.heap.size ∧ ¬ w3.heap.size = b := (by omega)) | (go_at_call 64; refine (HAB.out _).mono ?_; rintro e w4 ⟨rfl, q1⟩; rw [hab]; replace H := Hp.step (by with_reducible repeat (first | exact H | apply Hp.alloc | apply Hp.set | apply Hp.drew | apply Hp.drewN | apply Hp.bytesW | exact Upd.here | exact Upd.hereR | apply Upd.there | apply Sz.alloc | apply Sz.set | apply Sz.drew | apply Sz.drewN | apply Sz.bytesW | assumption | exact Sz.base _)) q1; (try simp only [List.set_cons_zero, List.set_cons_succ, List.cons_append, List.nil_append] at H); clear q1 F; have F := H.facts; simp only [Facts, NeF, box, row, reg, cellsF, rCert, rCertKey, rInt, ne_eq, true_and, and_true, Nat.reduceAdd, Nat.zero_add] at F) | (go_at_call 65; refine (implUnder_any owner owner2 _ hsow hco (hml.on (Hp.b (by with_reducible repeat (first | exact H | apply Hp.alloc | apply Hp.set | apply Hp.drew | apply Hp.drewN | apply Hp.bytesW | exact Upd.here | exact Upd.hereR | apply Upd.there | apply Sz.alloc | apply Sz.set | apply Sz.drew | apply Sz.drewN | apply Sz.bytesW | assumption | exact Sz.base _))))).mono ?_; rintro e w5 ⟨rfl, q1⟩; rw [hud]; replace H := Hp.step (by with_reducible repeat (first | exact H | apply Hp.alloc | apply Hp.set | apply Hp.drew | apply Hp.drewN | apply Hp.bytesW | exact Upd.here | exact Upd.hereR | apply Upd.there | apply Sz.alloc | apply Sz.set | apply Sz.drew | apply Sz.drewN | apply Sz.bytesW | assumption | exact Sz.base _)) q1; (try simp only [List.set_cons_zero, List.set_cons_succ, List.cons_append, List.nil_append] at H); clear q1 F; have F := H.facts; simp only [Facts, NeF, box, row, reg, cellsF, rCert, rCertKey, rInt, ne_eq, true_and, and_true, Nat.reduceAdd, Nat.zero_add] at F))
      all_goals
        go_ret
        exact ⟨by rw [← HE.out]; rfl, Hp.b (by with_reducible repeat (first | exact H | apply Hp.alloc | apply Hp.set | apply Hp.drew | apply Hp.drewN | apply Hp.bytesW | exact Upd.here | exact Upd.hereR | apply Upd.there | apply Sz.alloc | apply Sz.set | apply Sz.drew | apply Sz.drewN | apply Sz.bytesW | assumption | exact Sz.base _))⟩
  · have HE : Hid (0 = r) := by show _ = _; rw [← HR.out, upChk, if_neg (by rw [hab]; decide), if_neg (by rw [hud]; decide), if_neg ht]
    have ht1 : ¬ c.from_ < up.from_ := fun h => ht (.inl h)
    have ht2 : ¬ up.to_ < c.to_ := fun h => ht (.inr h)
    obtain ⟨ser, owner, iss, from_, to_, ca, depth, mark⟩ := up
    obtain ⟨ser2, owner2, iss2, from2, to2, ca2, depth2, mark2⟩ := c
    dsimp only [valCert] at *
    clear HR ht
    go_enter Tryz.func33, Tryz.ntmps33
    go_wp2_with (first | (go_at_call 32; refine (certIndex_any (some ⟨b, off, none⟩) cs.length c0 cs A1 ks.length c1 A2 ds.length c2 iss2 _ (hr0.grow (Hp.b (by with_reducible repeat (first | exact H | apply Hp.alloc | apply Hp.set | apply Hp.drew | apply Hp.drewN | apply Hp.bytesW | exact Upd.here | exact Upd.hereR | apply Upd.there | apply Sz.alloc | apply Sz.set | apply Sz.drew | apply Sz.drewN | apply Sz.bytesW | assumption | exact Sz.base _)))) rfl hb0 HM.out).mono ?_; rintro e w3 ⟨rfl, q1⟩; rw [hbs]; (try rw [hba]); replace H := Hp.step (by with_reducible repeat (first | exact H | apply Hp.alloc | apply Hp.set | apply Hp.drew | apply Hp.drewN | apply Hp.bytesW | exact Upd.here | exact Upd.hereR | apply Upd.there | apply Sz.alloc | apply Sz.set | apply Sz.drew | apply Sz.drewN | apply Sz.bytesW | assumption | exact Sz.base _)) q1; (try simp only [List.set_cons_zero, List.set_cons_succ, List.cons_append, List.nil_append] at H); clear q1; have F := H.facts; simp only [Facts, NeF, box, row, reg, cellsF, rCert, rCertKey, rInt, ne_eq, true_and, and_true, Nat.reduceAdd, Nat.zero_add] at F; obtain ⟨e0, e1, e2, e3, e4, e5, e6, e7⟩ := HCS.out _ _ H; have hbw3 : b < w3.heap.size := Nat.lt_of_lt_of_le hb H.b.size; have hbe3 : ¬ b = w3.heap.size ∧ ¬ w3.heap.size = b := (by omega)) | (go_at_call 64; refine (HAB.out _).mono ?_; rintro e w4 ⟨rfl, q1⟩; rw [hab]; replace H := Hp.step (by with_reducible repeat (first | exact H | apply Hp.alloc | apply Hp.set | apply Hp.drew | apply Hp.drewN | apply Hp.bytesW | exact Upd.here | exact Upd.hereR | apply Upd.there | apply Sz.alloc | apply Sz.set | apply Sz.drew | apply Sz.drewN | apply Sz.bytesW | assumption | exact Sz.base _)) q1; (try simp only [List.set_cons_zero, List.set_cons_succ, List.cons_append, List.nil_append] at H); clear q1 F; have F := H.facts; simp only [Facts, NeF, box, row, reg, cellsF, rCert, rCertKey, rInt, ne_eq, true_and, and_true, Nat.reduceAdd, Nat.zero_add] at F) | (go_at_call 65; refine (implUnder_any owner owner2 _ hsow hco (hml.on (Hp.b (by with_reducible repeat (first | exact H | apply Hp.alloc | apply Hp.set | apply Hp.drew | apply Hp.drewN | apply Hp.bytesW | exact Upd.here | exact Upd.hereR | apply Upd.there | apply Sz.alloc | apply Sz.set | apply Sz.drew | apply Sz.drewN | apply Sz.bytesW | assumption | exact Sz.base _))))).mono ?_; rintro e w5 ⟨rfl, q1⟩; rw [hud]; replace H := Hp.step (by with_reducible repeat (first | exact H | apply Hp.alloc | apply Hp.set | apply Hp.drew | apply Hp.drewN | apply Hp.bytesW | exact Upd.here | exact Upd.hereR | apply Upd.there | apply Sz.alloc | apply Sz.set | apply Sz.drew | apply Sz.drewN | apply Sz.bytesW | assumption | exact Sz.base _)) q1; (try simp only [List.set_cons_zero, List.set_cons_succ, List.cons_append, List.nil_append] at H); clear q1 F; have F := H.facts; simp only [Facts, NeF, box, row, reg, cellsF, rCert, rCertKey, rInt, ne_eq, true_and, and_true, Nat.reduceAdd, Nat.zero_add] at F))
    all_goals
      go_ret
      exact ⟨by rw [← HE.out]; rfl, Hp.b (by with_reducible repeat (first | exact H | apply Hp.alloc | apply Hp.set | apply Hp.drew | apply Hp.drewN | apply Hp.bytesW | exact Upd.here | exact Upd.hereR | apply Upd.there | apply Sz.alloc | apply Sz.set | apply Sz.drew | apply Sz.drewN | apply Sz.bytesW | assumption | exact Sz.base _))⟩
end Go.Proofs.YtlblkpcjknjijaaGreatDoor

/- Draws of piles and what goes with them. No condition. -/
import Derived.Test.YtlblkpcjknjijaaGreatDoorDrawD
set_option linter.unusedVariables false
set_option linter.unusedSimpArgs false
namespace Go.Proofs.YtlblkpcjknjijaaGreatDoor
open Go.RowKit
set_option linter.unusedVariables false
set_option linter.unusedSimpArgs false
theorem specIssue_at (A0 : Option Addr) (n0 c0 : Nat) (cs : List Cert) (A1 : Option Addr) (n1 c1 : Nat) (ks : List CertKey) (A2 : Option Addr) (n2 c2 : Nat) (ds : List Int) (c : Cert) (key : Int) (rcs : List Cert) (rks : List CertKey) (rn : Int) (w : World) (hd : issueU cs ks ds c key = ⟨rcs, rks, rn⟩) (hr0 : Rd w w.heap.size 8 A0 n0 c0 (cs.flatMap encCert)) (hn0 : cs.length = n0) (hb0 : n0 ≤ 1048576) (hsz : ∀ u ∈ cs, CertFits u) (hr1 : Rd w w.heap.size 2 A1 n1 c1 (ks.flatMap encCertKey)) (hn1 : ks.length = n1) (hb1 : n1 ≤ 1048576) (hr2 : Rd w w.heap.size 1 A2 n2 c2 (ds.flatMap encInt)) (hn2 : ds.length = n2) (hb2 : n2 ≤ 1048576) (hco : c.owner.size ≤ maxLen) :
    Calls Tryz.prog 7 #[pileV A0 n0 c0 A1 n1 c1 A2 n2 c2, valCert c, .int .i64 key] w fun e w' => ∃ B0 d0 B1 d1 B2 d2, e = .returned (.tuple #[pileV B0 rcs.length d0 B1 rks.length d1 B2 ds.length d2, .int .i64 rn]) ∧ Hp w w' [rCert B0 d0 rcs, rCertKey B1 d1 rks, rInt B2 d2 ds] := specIssue_hp A0 n0 c0 cs A1 n1 c1 ks A2 n2 c2 ds c key ⟨rcs, rks, rn⟩ w hd hr0 hn0 hb0 hsz hr1 hn1 hb1 hr2 hn2 hb2 hco
theorem Hp.ne_rowC {w0 w : World} {L : List Ent} {f g n c m k : Nat} {t e : TypeId} {cs xs : List Value} (H : Hp w0 w L) (h : Sel L [box f t cs, row e k (.slice (some ⟨g, 0, none⟩) n c) m xs]) : ¬ g = f ∧ ¬ f = g := by
  have h2 := (List.pairwise_cons.1 (H.sel h).ap).1 _ List.mem_cons_self
  have h3 : ¬ g = f := fun e1 => h2 f rfl (by show (Value.slice (some ⟨g, 0, none⟩) n c).ownBlock = some f; rw [← e1]; rfl)
  exact ⟨h3, fun e1 => h3 e1.symm⟩
set_option maxHeartbeats 4000000 in
set_option maxRecDepth 10000 in
theorem l12DrawOne_hp (A : Option Addr) (n c : Nat) (bs : List UInt8) (w : World) (hr : Rd w w.heap.size 1 A n c (bs.flatMap encByte)) (hn : bs.length = n) :
    Calls Tryz.prog 17 #[.slice A n c] w fun e w' => ∃ b A0 c0 cs A1 c1 ks A2 c2 ds, e = .returned (.tuple #[.pointer (some ⟨b, 0, none⟩), pileV A0 cs.length c0 A1 ks.length c1 A2 ds.length c2]) ∧ PilD cs ks ds ∧ Hp w w' [rCert A0 c0 cs, rCertKey A1 c1 ks, rInt A2 c2 ds, curE b A n c] := by
  have H := Hp.nil w
  go_enter Tryz.func17, Tryz.ntmps17
  go_wp2_with fail
  refine (l01New_hp A n c bs w _ _ (by with_reducible repeat (first | exact H | apply Hp.alloc | apply Hp.set | apply Hp.drew | apply Hp.drewN | apply Hp.bytesW | exact Upd.here | exact Upd.hereR | apply Upd.there | apply Sz.alloc | apply Sz.set | apply Sz.drew | apply Sz.drewN | apply Sz.bytesW | assumption | exact Sz.base _)) hr hn).mono ?_
  rintro e w1 ⟨b, rfl, H1⟩
  replace H := H1; clear H1; (try simp only [List.set_cons_zero, List.set_cons_succ, List.cons_append, List.nil_append] at H); (try clear F); have F := H.facts; simp only [Facts, NeF, box, row, reg, cellsF, rByte, rCert, rCertKey, rInt, ne_eq, true_and, and_true, Nat.reduceAdd, Nat.zero_add] at F
  go_wp2_with fail
  refine (l01Size24_any A n c bs _ (hr.grow (Hp.b (by with_reducible repeat (first | exact H | apply Hp.alloc | apply Hp.set | apply Hp.drew | apply Hp.drewN | apply Hp.bytesW | exact Upd.here | exact Upd.hereR | apply Upd.there | apply Sz.alloc | apply Sz.set | apply Sz.drew | apply Sz.drewN | apply Sz.bytesW | assumption | exact Sz.base _)))) hn).mono ?_
  rintro e w2 ⟨x, rfl, hx, q2⟩
  have hm : curE b A n c ∈ [curE b A n c] := List.mem_cons_self
  replace H := Hp.step (by with_reducible repeat (first | exact H | apply Hp.alloc | apply Hp.set | apply Hp.drew | apply Hp.drewN | apply Hp.bytesW | exact Upd.here | exact Upd.hereR | apply Upd.there | apply Sz.alloc | apply Sz.set | apply Sz.drew | apply Sz.drewN | apply Sz.bytesW | assumption | exact Sz.base _)) q2; (try simp only [List.set_cons_zero, List.set_cons_succ, List.cons_append, List.nil_append] at H); clear q2; clear F; have F := H.facts; simp only [Facts, NeF, box, row, reg, cellsF, rByte, rCert, rCertKey, rInt, ne_eq, true_and, and_true, Nat.reduceAdd, Nat.zero_add] at F
  go_wp2_with fail
  refine (l01Below_hp b A n c bs w _ _ _ (by with_reducible repeat (first | exact H | apply Hp.alloc | apply Hp.set | apply Hp.drew | apply Hp.drewN | apply Hp.bytesW | exact Upd.here | exact Upd.hereR | apply Upd.there | apply Sz.alloc | apply Sz.set | apply Sz.drew | apply Sz.drewN | apply Sz.bytesW | assumption | exact Sz.base _)) (by with_reducible repeat (first | exact hm | exact List.mem_cons_self | apply List.mem_cons_of_mem)) hr hn (by omega) (by omega)).mono ?_
  rintro e w3 ⟨x3, rfl, hx3, H1⟩
  replace H := H1; clear H1; (try simp only [List.set_cons_zero, List.set_cons_succ, List.cons_append, List.nil_append] at H); (try clear F); have F := H.facts; simp only [Facts, NeF, box, row, reg, cellsF, rByte, rCert, rCertKey, rInt, ne_eq, true_and, and_true, Nat.reduceAdd, Nat.zero_add] at F
  obtain ⟨m, rfl⟩ := Int.eq_ofNat_of_zero_le hx3.1
  go_wp2_with fail
  refine (l12DrawPile_hp b A n c bs w _ _ m (by omega) (by with_reducible repeat (first | exact H | apply Hp.alloc | apply Hp.set | apply Hp.drew | apply Hp.drewN | apply Hp.bytesW | exact Upd.here | exact Upd.hereR | apply Upd.there | apply Sz.alloc | apply Sz.set | apply Sz.drew | apply Sz.drewN | apply Sz.bytesW | assumption | exact Sz.base _)) (by with_reducible repeat (first | exact hm | exact List.mem_cons_self | apply List.mem_cons_of_mem)) hr hn).mono ?_
  rintro e w4 ⟨A0, c0, cs, A1, c1, ks, A2, c2, ds, rfl, hP, H4⟩
  replace H := H4; clear H4; (try simp only [List.set_cons_zero, List.set_cons_succ, List.cons_append, List.nil_append] at H); (try clear F); have F := H.facts; simp only [Facts, NeF, box, row, reg, cellsF, rByte, rCert, rCertKey, rInt, ne_eq, true_and, and_true, Nat.reduceAdd, Nat.zero_add] at F
  have HPD := Lib.hid hP; clear hP
  go_wp2_with fail
  refine bodyPost_ret (v := .tuple #[.pointer (some ⟨b, 0, none⟩), pileV A0 cs.length c0 A1 ks.length c1 A2 ds.length c2]) (by simp [results, Tryz.results17, go_sem, F]) rfl ⟨b, A0, c0, cs, A1, c1, ks, A2, c2, ds, rfl, HPD.out, (by refine Hp.sel (by with_reducible repeat (first | exact H | apply Hp.alloc | apply Hp.set | apply Hp.drew | apply Hp.drewN | apply Hp.bytesW | exact Upd.here | exact Upd.hereR | apply Upd.there | apply Sz.alloc | apply Sz.set | apply Sz.drew | apply Sz.drewN | apply Sz.bytesW | assumption | exact Sz.base _)) ?_; (try simp only [List.set_cons_zero, List.set_cons_succ]); exact (by with_reducible repeat (first | exact Sel.nil | apply Sel.cons | exact Del.here | apply Del.there)))⟩
set_option maxHeartbeats 4000000 in
set_option maxRecDepth 10000 in
theorem DrawIssueCert_hp (A : Option Addr) (n c : Nat) (bs : List UInt8) (w : World) (hr : Rd w w.heap.size 1 A n c (bs.flatMap encByte)) (hn : bs.length = n) :
    Calls Tryz.prog 6 #[.slice A n c] w fun e w' => ∃ A0 c0 cs A1 c1 ks A2 c2 ds x key, e = .returned (.tuple #[pileV A0 cs.length c0 A1 ks.length c1 A2 ds.length c2, valCert x, .int .i64 key]) ∧ PilD cs ks ds ∧ x.owner.size ≤ 120 ∧ Hp w w' [rCert A0 c0 cs, rCertKey A1 c1 ks, rInt A2 c2 ds] := by
  have H := Hp.nil w
  go_enter Tryz.func6, Tryz.ntmps6
  go_wp2_with fail
  refine (l12DrawOne_hp A n c bs _ (hr.grow (Hp.b (by with_reducible repeat (first | exact H | apply Hp.alloc | apply Hp.set | apply Hp.drew | apply Hp.drewN | apply Hp.bytesW | exact Upd.here | exact Upd.hereR | apply Upd.there | apply Sz.alloc | apply Sz.set | apply Sz.drew | apply Sz.drewN | apply Sz.bytesW | assumption | exact Sz.base _)))) hn).mono ?_
  rintro e w1 ⟨b, A0, c0, cs, A1, c1, ks, A2, c2, ds, rfl, hP, h1⟩
  replace H := Hp.call (by with_reducible repeat (first | exact H | apply Hp.alloc | apply Hp.set | apply Hp.drew | apply Hp.drewN | apply Hp.bytesW | exact Upd.here | exact Upd.hereR | apply Upd.there | apply Sz.alloc | apply Sz.set | apply Sz.drew | apply Sz.drewN | apply Sz.bytesW | assumption | exact Sz.base _)) h1; (try simp only [List.set_cons_zero, List.set_cons_succ, List.cons_append, List.nil_append] at H); clear h1; (try clear F); have F := H.facts; simp only [Facts, NeF, box, row, reg, cellsF, rByte, rCert, rCertKey, rInt, ne_eq, true_and, and_true, Nat.reduceAdd, Nat.zero_add] at F
  have HPD := Lib.hid hP; clear hP
  have hm : curE b A n c ∈ [curE b A n c] := List.mem_cons_self
  go_wp2_with fail
  go_region_law (first | (go_simp; go_at_call 18; refine (l12DrawCert_hp b A n c bs w _ _ A0 c0 cs A1 ks.length c1 A2 ds.length c2 (by with_reducible repeat (first | exact H | apply Hp.alloc | apply Hp.set | apply Hp.drew | apply Hp.drewN | apply Hp.bytesW | exact Upd.here | exact Upd.hereR | apply Upd.there | apply Sz.alloc | apply Sz.set | apply Sz.drew | apply Sz.drewN | apply Sz.bytesW | assumption | exact Sz.base _)) (by with_reducible repeat (first | exact hm | exact List.mem_cons_self | apply List.mem_cons_of_mem)) hr hn (by with_reducible repeat (first | exact List.mem_cons_self | apply List.mem_cons_of_mem)) HPD.out.2.2.2 HPD.out.1).mono ?_; rintro e wz1 ⟨x, rfl, hxo, H1⟩; replace H := H1; clear H1; (try simp only [List.set_cons_zero, List.set_cons_succ, List.cons_append, List.nil_append] at H); (try clear F); have F := H.facts; simp only [Facts, NeF, box, row, reg, cellsF, rByte, rCert, rCertKey, rInt, ne_eq, true_and, and_true, Nat.reduceAdd, Nat.zero_add] at F) | (go_simp; go_at_call 19; refine (l04DrawKey_hp b A n c bs w _ _ (by with_reducible repeat (first | exact H | apply Hp.alloc | apply Hp.set | apply Hp.drew | apply Hp.drewN | apply Hp.bytesW | exact Upd.here | exact Upd.hereR | apply Upd.there | apply Sz.alloc | apply Sz.set | apply Sz.drew | apply Sz.drewN | apply Sz.bytesW | assumption | exact Sz.base _)) (by with_reducible repeat (first | exact hm | exact List.mem_cons_self | apply List.mem_cons_of_mem)) hr hn).mono ?_; rintro e wz2 ⟨key, rfl, H1⟩; replace H := H1; clear H1; (try simp only [List.set_cons_zero, List.set_cons_succ, List.cons_append, List.nil_append] at H); (try clear F); have F := H.facts; simp only [Facts, NeF, box, row, reg, cellsF, rByte, rCert, rCertKey, rInt, ne_eq, true_and, and_true, Nat.reduceAdd, Nat.zero_add] at F))
  all_goals
    go_wp2_with fail
    refine bodyPost_ret (v := .tuple #[pileV A0 cs.length c0 A1 ks.length c1 A2 ds.length c2, valCert x, .int .i64 key]) (by simp [results, Tryz.results6, go_sem, F]) rfl ⟨A0, c0, cs, A1, c1, ks, A2, c2, ds, x, key, rfl, HPD.out, hxo, (by refine Hp.sel (by with_reducible repeat (first | exact H | apply Hp.alloc | apply Hp.set | apply Hp.drew | apply Hp.drewN | apply Hp.bytesW | exact Upd.here | exact Upd.hereR | apply Upd.there | apply Sz.alloc | apply Sz.set | apply Sz.drew | apply Sz.drewN | apply Sz.bytesW | assumption | exact Sz.base _)) ?_; (try simp only [List.set_cons_zero, List.set_cons_succ]); exact (by with_reducible repeat (first | exact Sel.nil | apply Sel.cons | exact Del.here | apply Del.there)))⟩
set_option maxHeartbeats 4000000 in
set_option maxRecDepth 10000 in
theorem l12DrawSerial_hp (b : Nat) (A : Option Addr) (n c : Nat) (bs : List UInt8) (w v : World) (L : List Ent) (A0 : Option Addr) (c0 : Nat) (cs : List Cert) (A1 : Option Addr) (n1 c1 : Nat) (A2 : Option Addr) (n2 c2 : Nat) (H : Hp w v L) (hm : curE b A n c ∈ L) (hr : Rd w w.heap.size 1 A n c (bs.flatMap encByte)) (hn : bs.length = n) (hC : rCert A0 c0 cs ∈ L) (hl : cs.length ≤ 60) :
    Calls Tryz.prog 42 #[.pointer (some ⟨b, 0, none⟩), .agg #[.slice A0 cs.length c0, .slice A1 n1 c1, .slice A2 n2 c2]] v fun e w' => ∃ x : Int, e = .returned (.int .i64 x) ∧ Hp w w' L := by
  by_cases h0 : 0 < cs.length
  · have h0i : (0 : Int) < (cs.length : Int) := by omega
    have h0d : decide ((0 : Int) < (cs.length : Int)) = true := decide_eq_true h0i
    obtain ⟨g0, rfl⟩ := rowGc (H.rowM hC) h0
    go_enter Tryz.func42, Tryz.ntmps42
    go_wp2_with fail
    refine (l01Once_hp b A n c bs w _ _ _ (by with_reducible repeat (first | exact H | apply Hp.alloc | apply Hp.set | apply Hp.drew | apply Hp.drewN | apply Hp.bytesW | exact Upd.here | exact Upd.hereR | apply Upd.there | apply Sz.alloc | apply Sz.set | apply Sz.drew | apply Sz.drewN | apply Sz.bytesW | assumption | exact Sz.base _)) (by with_reducible repeat (first | exact hm | exact List.mem_cons_self | apply List.mem_cons_of_mem)) hr hn (by omega) (by omega)).mono ?_
    rintro e w1 ⟨x1, rfl, H1⟩
    replace H := H1; clear H1; (try simp only [List.set_cons_zero, List.set_cons_succ, List.cons_append, List.nil_append] at H); (try clear F); have F := H.facts; simp only [Facts, NeF, box, row, reg, cellsF, rByte, rCert, rCertKey, rInt, ne_eq, true_and, and_true, Nat.reduceAdd, Nat.zero_add] at F
    cases x1 with
    | true =>
      go_wp2_with (go_at_call 50; refine (l01PickInt_t b A n c bs w _ _ _ _ _ (by with_reducible repeat (first | exact H | apply Hp.alloc | apply Hp.set | apply Hp.drew | apply Hp.drewN | apply Hp.bytesW | exact Upd.here | exact Upd.hereR | apply Upd.there | apply Sz.alloc | apply Sz.set | apply Sz.drew | apply Sz.drewN | apply Sz.bytesW | assumption | exact Sz.base _)) (by with_reducible repeat (first | exact hm | exact List.mem_cons_self | apply List.mem_cons_of_mem)) (by with_reducible repeat (first | exact List.mem_cons_self | apply List.mem_cons_of_mem)) (by rfl) (by omega) (by omega) (by repeat (first | exact trivial | refine ⟨⟨_, rfl⟩, ?_⟩)) hr hn).mono ?_; rintro e wz4 ⟨x4, rfl, H4⟩; replace H := H4; clear H4; (try simp only [List.set_cons_zero, List.set_cons_succ, List.cons_append, List.nil_append] at H); (try clear F); have F := H.facts; simp only [Facts, NeF, box, row, reg, cellsF, rByte, rCert, rCertKey, rInt, ne_eq, true_and, and_true, Nat.reduceAdd, Nat.zero_add] at F)
      go_ret
      exact ⟨_, rfl, (Hp.sel (by with_reducible repeat (first | exact H | apply Hp.alloc | apply Hp.set | apply Hp.drew | apply Hp.drewN | apply Hp.bytesW | exact Upd.here | exact Upd.hereR | apply Upd.there | apply Sz.alloc | apply Sz.set | apply Sz.drew | apply Sz.drewN | apply Sz.bytesW | assumption | exact Sz.base _)) (by (try simp only [List.cons_append, List.nil_append, List.set_cons_zero, List.set_cons_succ]); (with_reducible repeat (first | exact Sel.nil | apply Sel.cons | exact Del.here | apply Del.there)); (try (refine Sel.tlC ?_; (with_reducible repeat (first | exact TlC.here | apply TlC.there))))))⟩
    | false =>
      go_wp2_with fail
      go_region_law (first | (go_simp; go_at_call 41; refine (l01Below_hp b A n c bs w _ _ _ (by with_reducible repeat (first | exact H | apply Hp.alloc | apply Hp.set | apply Hp.drew | apply Hp.drewN | apply Hp.bytesW | exact Upd.here | exact Upd.hereR | apply Upd.there | apply Sz.alloc | apply Sz.set | apply Sz.drew | apply Sz.drewN | apply Sz.bytesW | assumption | exact Sz.base _)) (by with_reducible repeat (first | exact hm | exact List.mem_cons_self | apply List.mem_cons_of_mem)) hr hn (by omega) (by omega)).mono ?_; rintro e wz2 ⟨z2, rfl, hz2, H2⟩; replace H := H2; clear H2; (try simp only [List.set_cons_zero, List.set_cons_succ, List.cons_append, List.nil_append] at H); (try clear F); have F := H.facts; simp only [Facts, NeF, box, row, reg, cellsF, rByte, rCert, rCertKey, rInt, ne_eq, true_and, and_true, Nat.reduceAdd, Nat.zero_add] at F; obtain ⟨k2, rfl⟩ := Int.eq_ofNat_of_zero_le hz2.1; have hk2 : k2 < cs.length := (by omega); have hk2i : (k2 : Int) < (cs.length : Int) := (by omega); have q0 := (Rd.certAt (w := wz2) (A := some ⟨g0, 0, none⟩) (n := cs.length) (c := c0) (us := cs) (k := k2) (H.rdM (show row 30 8 (.slice (some ⟨g0, 0, none⟩) cs.length c0) cs.length (cs.flatMap encCert) ∈ _ from (by with_reducible repeat (first | exact hC | apply List.mem_cons_of_mem)))) rfl hk2 rfl wz2 (Below.refl _ _)).1; simp only [Nat.zero_add] at q0; generalize (cs[k2]).ser = sx at *))
      all_goals
        go_wp2_with fail
        go_ret
        exact ⟨_, rfl, (Hp.sel (by with_reducible repeat (first | exact H | apply Hp.alloc | apply Hp.set | apply Hp.drew | apply Hp.drewN | apply Hp.bytesW | exact Upd.here | exact Upd.hereR | apply Upd.there | apply Sz.alloc | apply Sz.set | apply Sz.drew | apply Sz.drewN | apply Sz.bytesW | assumption | exact Sz.base _)) (by (try simp only [List.cons_append, List.nil_append, List.set_cons_zero, List.set_cons_succ]); (with_reducible repeat (first | exact Sel.nil | apply Sel.cons | exact Del.here | apply Del.there)); (try (refine Sel.tlC ?_; (with_reducible repeat (first | exact TlC.here | apply TlC.there))))))⟩
  · have h0d : decide ((0 : Int) < (cs.length : Int)) = false := decide_eq_false (by omega)
    go_enter Tryz.func42, Tryz.ntmps42
    go_wp2_with (go_at_call 50; refine (l01PickInt_t b A n c bs w _ _ _ _ _ (by with_reducible repeat (first | exact H | apply Hp.alloc | apply Hp.set | apply Hp.drew | apply Hp.drewN | apply Hp.bytesW | exact Upd.here | exact Upd.hereR | apply Upd.there | apply Sz.alloc | apply Sz.set | apply Sz.drew | apply Sz.drewN | apply Sz.bytesW | assumption | exact Sz.base _)) (by with_reducible repeat (first | exact hm | exact List.mem_cons_self | apply List.mem_cons_of_mem)) (by with_reducible repeat (first | exact List.mem_cons_self | apply List.mem_cons_of_mem)) (by rfl) (by omega) (by omega) (by repeat (first | exact trivial | refine ⟨⟨_, rfl⟩, ?_⟩)) hr hn).mono ?_; rintro e wz4 ⟨x4, rfl, H4⟩; replace H := H4; clear H4; (try simp only [List.set_cons_zero, List.set_cons_succ, List.cons_append, List.nil_append] at H); (try clear F); have F := H.facts; simp only [Facts, NeF, box, row, reg, cellsF, rByte, rCert, rCertKey, rInt, ne_eq, true_and, and_true, Nat.reduceAdd, Nat.zero_add] at F)
    go_ret
    exact ⟨_, rfl, (Hp.sel (by with_reducible repeat (first | exact H | apply Hp.alloc | apply Hp.set | apply Hp.drew | apply Hp.drewN | apply Hp.bytesW | exact Upd.here | exact Upd.hereR | apply Upd.there | apply Sz.alloc | apply Sz.set | apply Sz.drew | apply Sz.drewN | apply Sz.bytesW | assumption | exact Sz.base _)) (by (try simp only [List.cons_append, List.nil_append, List.set_cons_zero, List.set_cons_succ]); (with_reducible repeat (first | exact Sel.nil | apply Sel.cons | exact Del.here | apply Del.there)); (try (refine Sel.tlC ?_; (with_reducible repeat (first | exact TlC.here | apply TlC.there))))))⟩
set_option maxHeartbeats 8000000 in
set_option maxRecDepth 10000 in
theorem DrawCheckChain_hp (A : Option Addr) (n c : Nat) (bs : List UInt8) (w : World) (hr : Rd w w.heap.size 1 A n c (bs.flatMap encByte)) (hn : bs.length = n) :
    Calls Tryz.prog 13 #[.slice A n c] w fun e w' => ∃ A0 c0 cs A1 c1 ks A2 c2 ds x now, e = .returned (.tuple #[pileV A0 cs.length c0 A1 ks.length c1 A2 ds.length c2, .int .i64 x, .int .i64 now]) ∧ PilD cs ks ds ∧ Hp w w' [rCert A0 c0 cs, rCertKey A1 c1 ks, rInt A2 c2 ds] := by
  have H := Hp.nil w
  go_enter Tryz.func13, Tryz.ntmps13
  go_wp2_with fail
  refine (l12DrawOne_hp A n c bs _ (hr.grow (Hp.b (by with_reducible repeat (first | exact H | apply Hp.alloc | apply Hp.set | apply Hp.drew | apply Hp.drewN | apply Hp.bytesW | exact Upd.here | exact Upd.hereR | apply Upd.there | apply Sz.alloc | apply Sz.set | apply Sz.drew | apply Sz.drewN | apply Sz.bytesW | assumption | exact Sz.base _)))) hn).mono ?_
  rintro e w1 ⟨b, A0, c0, cs, A1, c1, ks, A2, c2, ds, rfl, hP, h1⟩
  replace H := Hp.call (by with_reducible repeat (first | exact H | apply Hp.alloc | apply Hp.set | apply Hp.drew | apply Hp.drewN | apply Hp.bytesW | exact Upd.here | exact Upd.hereR | apply Upd.there | apply Sz.alloc | apply Sz.set | apply Sz.drew | apply Sz.drewN | apply Sz.bytesW | assumption | exact Sz.base _)) h1; (try simp only [List.set_cons_zero, List.set_cons_succ, List.cons_append, List.nil_append] at H); clear h1; (try clear F); have F := H.facts; simp only [Facts, NeF, box, row, reg, cellsF, rByte, rCert, rCertKey, rInt, ne_eq, true_and, and_true, Nat.reduceAdd, Nat.zero_add] at F
  have HPD := Lib.hid hP; clear hP
  have hm : curE b A n c ∈ [curE b A n c] := List.mem_cons_self
  go_wp2_with fail
  refine (l01Once_hp b A n c bs w _ _ _ (by with_reducible repeat (first | exact H | apply Hp.alloc | apply Hp.set | apply Hp.drew | apply Hp.drewN | apply Hp.bytesW | exact Upd.here | exact Upd.hereR | apply Upd.there | apply Sz.alloc | apply Sz.set | apply Sz.drew | apply Sz.drewN | apply Sz.bytesW | assumption | exact Sz.base _)) (by with_reducible repeat (first | exact hm | exact List.mem_cons_self | apply List.mem_cons_of_mem)) hr hn (by omega) (by omega)).mono ?_
  rintro e w2 ⟨x2, rfl, H1⟩
  replace H := H1; clear H1; (try simp only [List.set_cons_zero, List.set_cons_succ, List.cons_append, List.nil_append] at H); (try clear F); have F := H.facts; simp only [Facts, NeF, box, row, reg, cellsF, rByte, rCert, rCertKey, rInt, ne_eq, true_and, and_true, Nat.reduceAdd, Nat.zero_add] at F
  cases x2 with
  | false =>
    have h60 : cs.length ≤ 60 := HPD.out.1
    go_wp2_with fail
    go_region_law (first | (go_simp; go_at_call 42; refine (l12DrawSerial_hp b A n c bs w _ _ A0 c0 cs A1 ks.length c1 A2 ds.length c2 (by with_reducible repeat (first | exact H | apply Hp.alloc | apply Hp.set | apply Hp.drew | apply Hp.drewN | apply Hp.bytesW | exact Upd.here | exact Upd.hereR | apply Upd.there | apply Sz.alloc | apply Sz.set | apply Sz.drew | apply Sz.drewN | apply Sz.bytesW | assumption | exact Sz.base _)) (by with_reducible repeat (first | exact hm | exact List.mem_cons_self | apply List.mem_cons_of_mem)) hr hn (by with_reducible repeat (first | exact List.mem_cons_self | apply List.mem_cons_of_mem)) h60).mono ?_; rintro e wz5 ⟨x5, rfl, H1⟩; replace H := H1; clear H1; (try simp only [List.set_cons_zero, List.set_cons_succ, List.cons_append, List.nil_append] at H); (try clear F); have F := H.facts; simp only [Facts, NeF, box, row, reg, cellsF, rByte, rCert, rCertKey, rInt, ne_eq, true_and, and_true, Nat.reduceAdd, Nat.zero_add] at F) | (go_simp; go_at_call 41; refine (l01Below_hp b A n c bs w _ _ _ (by with_reducible repeat (first | exact H | apply Hp.alloc | apply Hp.set | apply Hp.drew | apply Hp.drewN | apply Hp.bytesW | exact Upd.here | exact Upd.hereR | apply Upd.there | apply Sz.alloc | apply Sz.set | apply Sz.drew | apply Sz.drewN | apply Sz.bytesW | assumption | exact Sz.base _)) (by with_reducible repeat (first | exact hm | exact List.mem_cons_self | apply List.mem_cons_of_mem)) hr hn (by omega) (by omega)).mono ?_; rintro e wz2 ⟨z2, rfl, hz2, H2⟩; replace H := H2; clear H2; (try simp only [List.set_cons_zero, List.set_cons_succ, List.cons_append, List.nil_append] at H); (try clear F); (try have F := H.facts; simp only [Facts, NeF, box, row, reg, cellsF, rByte, rCert, rCertKey, rInt, ne_eq, true_and, and_true, Nat.reduceAdd, Nat.zero_add] at F)))
    all_goals
      go_wp2_with fail
      refine bodyPost_ret (v := .tuple #[pileV A0 cs.length c0 A1 ks.length c1 A2 ds.length c2, .int .i64 x5, .int .i64 z2]) (by simp [results, Tryz.results13, go_sem, F]) rfl ⟨A0, c0, cs, A1, c1, ks, A2, c2, ds, x5, z2, rfl, HPD.out, (Hp.sel (by with_reducible repeat (first | exact H | apply Hp.alloc | apply Hp.set | apply Hp.drew | apply Hp.drewN | apply Hp.bytesW | exact Upd.here | exact Upd.hereR | apply Upd.there | apply Sz.alloc | apply Sz.set | apply Sz.drew | apply Sz.drewN | apply Sz.bytesW | assumption | exact Sz.base _)) (by (try simp only [List.cons_append, List.nil_append, List.set_cons_zero, List.set_cons_succ]); (with_reducible repeat (first | exact Sel.nil | apply Sel.cons | exact Del.here | apply Del.there)); (try (refine Sel.tlC ?_; (with_reducible repeat (first | exact TlC.here | apply TlC.there))))))⟩
  | true =>
    clear HPD
    go_wp2_with fail
    refine (l01Below_hp b A n c bs w _ _ _ (by with_reducible repeat (first | exact H | apply Hp.alloc | apply Hp.set | apply Hp.drew | apply Hp.drewN | apply Hp.bytesW | exact Upd.here | exact Upd.hereR | apply Upd.there | apply Sz.alloc | apply Sz.set | apply Sz.drew | apply Sz.drewN | apply Sz.bytesW | assumption | exact Sz.base _)) (by with_reducible repeat (first | exact hm | exact List.mem_cons_self | apply List.mem_cons_of_mem)) hr hn (by omega) (by omega)).mono ?_
    rintro e w3 ⟨x3, rfl, hx3, H1⟩
    replace H := H1; clear H1; (try simp only [List.set_cons_zero, List.set_cons_succ, List.cons_append, List.nil_append] at H); (try clear F); have F := H.facts; simp only [Facts, NeF, box, row, reg, cellsF, rByte, rCert, rCertKey, rInt, ne_eq, true_and, and_true, Nat.reduceAdd, Nat.zero_add] at F
    obtain ⟨m, hm3⟩ := Int.eq_ofNat_of_zero_le (show 0 ≤ 5 + x3 by omega)
    have hm8 : m ≤ 7 := by omega
    have hwm : IntKind.i64.wrap (5 + x3) = (m : Int) := by rw [IntKind.wrap_i64]; omega
    clear hm3 hx3
    go_wp2_with fail
    have HH := Lib.hid H; clear H F
    go_loopw [8, 9, 10] (fun i s9 s10 wr => ∃ k : Nat, k ≤ m ∧ i = .int .i64 k ∧ ∃ (A0 : Option Addr) (c0 : Nat) (cs : List Cert) (A1 : Option Addr) (c1 : Nat) (ks : List CertKey) (A2 : Option Addr) (c2 : Nat) (ds : List Int), Hid (pileOk cs ks ds = true) ∧ Hid (Hp w wr [box w1.heap.size 28 [.slice A0 cs.length c0, .slice A1 ks.length c1, .slice A2 ds.length c2], rCert A0 c0 cs, rCertKey A1 c1 ks, rInt A2 c2 ds, curE b A n c, box w.heap.size 28 [.slice none 0 0, .slice none 0 0, .slice none 0 0]])) (fun i _ _ _ => m - (intOf i).toNat)
    case atStart =>
      have H := HH.out
      refine ⟨0, Nat.zero_le _, rfl, none, 0, [], none, 0, [], none, 0, [], by show _ = _; rfl, Lib.hid (Hp.intoC (by with_reducible repeat (first | exact H | apply Hp.alloc | apply Hp.set | apply Hp.drew | apply Hp.drewN | apply Hp.bytesW | exact Upd.here | exact Upd.hereR | apply Upd.there | apply Sz.alloc | apply Sz.set | apply Sz.drew | apply Sz.drewN | apply Sz.bytesW | assumption | exact Sz.base _)) fun H1 => ?_)⟩
      have H2 := Hp.cons_nilRow (Hp.cons_nilRow (Hp.cons_nilRow H1 30 8) 57 2) 3 1
      have H3 : Hp w _ [box w1.heap.size 28 [.slice none 0 0, .slice none 0 0, .slice none 0 0], row 30 8 (.slice none 0 0) 0 [], row 57 2 (.slice none 0 0) 0 [], row 3 1 (.slice none 0 0) 0 [], curE b A n c, box w.heap.size 28 [.slice none 0 0, .slice none 0 0, .slice none 0 0]] := Hp.sel H2 (by (try simp only [List.cons_append, List.nil_append, List.set_cons_zero, List.set_cons_succ]); (with_reducible repeat (first | exact Sel.nil | apply Sel.cons | exact Del.here | apply Del.there)))
      exact H3
    case round =>
      clear HH
      obtain ⟨k, hk, rfl, A0, c0, cs, A1, c1, ks, A2, c2, ds, HPK, HP⟩ := hrel
      have H := HP.out
      have F := H.facts; simp only [Facts, NeF, box, row, reg, cellsF, rByte, rCert, rCertKey, rInt, ne_eq, true_and, and_true, Nat.reduceAdd, Nat.zero_add] at F
      have HPD := Lib.hid (pilD_ok HPK.out)
      have HFI := Lib.hid (pilD_fits HPD.out)
      have h60 : cs.length ≤ 60 := HPD.out.1
      have h61 : ks.length ≤ 60 := by have := HPD.out.2.1; omega
      have h62 : ds.length ≤ 61 := HPD.out.2.2.1
      by_cases hlt : k < m
      · have hk1 : (k : Int) < (m : Int) := by omega
        have HK1 : Hid (k + 1 ≤ m ∧ m - (k + 1) < m - k) := ⟨by omega, by omega⟩
        have hwa : IntKind.i64.wrap ((k : Int) + 1) = (k : Int) + 1 := by rw [IntKind.wrap_i64]; omega
        have hwb : IntKind.i64.wrap (6 - (k : Int)) = 6 - (k : Int) := by rw [IntKind.wrap_i64]; omega
        have hwc : IntKind.i64.wrap (100 + (k : Int)) = 100 + (k : Int) := by rw [IntKind.wrap_i64]; omega
        obtain ⟨⟨cs2, ks2, rn2⟩, hrr⟩ : ∃ rr, issueU cs ks ds ⟨(k : Int) + 1, ⟨#[97]⟩, k, 0, 90, true, 6 - (k : Int), 0⟩ (100 + (k : Int)) = rr := ⟨_, rfl⟩
        have HRR := Lib.hid hrr
        have HN : Hid (pileOk cs2 ks2 ds = true) := by
          have h9 := issue_pile ⟨(k : Int) + 1, ⟨#[97]⟩, k, 0, 90, true, 6 - (k : Int), 0⟩ (100 + (k : Int)) HPK.out
          rw [hrr] at h9; exact h9
        clear hlt hrr
        go_wp2_with fail
        refine call_atC (w0 := w) (by with_reducible repeat (first | exact H | apply Hp.alloc | apply Hp.set | apply Hp.drew | apply Hp.drewN | apply Hp.bytesW | exact Upd.here | exact Upd.hereR | apply Upd.there | apply Sz.alloc | apply Sz.set | apply Sz.drew | apply Sz.drewN | apply Sz.bytesW | assumption | exact Sz.base _)) fun H7 => ?_
        (try simp only [List.set_cons_zero, List.set_cons_succ, List.cons_append, List.nil_append] at H7)
        refine (specIssue_at A0 cs.length c0 cs A1 ks.length c1 ks A2 ds.length c2 ds ⟨(k : Int) + 1, ⟨#[97]⟩, k, 0, 90, true, 6 - (k : Int), 0⟩ (100 + (k : Int)) cs2 ks2 rn2 _ HRR.out (Hp.rdM H7 (show rCert A0 c0 cs ∈ _ from (by with_reducible repeat (first | exact List.mem_cons_self | apply List.mem_cons_of_mem)))) rfl (by omega) HFI.out (Hp.rdM H7 (show rCertKey A1 c1 ks ∈ _ from (by with_reducible repeat (first | exact List.mem_cons_self | apply List.mem_cons_of_mem)))) rfl (by omega) (Hp.rdM H7 (show rInt A2 c2 ds ∈ _ from (by with_reducible repeat (first | exact List.mem_cons_self | apply List.mem_cons_of_mem)))) rfl (by omega) (by show (⟨#[97]⟩ : ByteArray).size ≤ maxLen; unfold maxLen; decide)).mono ?_
        rintro e wz3 ⟨B0, d0, B1, d1, B2, d2, rfl, h3⟩
        clear H F
        have H := Hp.call H7 h3
        clear h3 H7
        (try simp only [List.set_cons_zero, List.set_cons_succ, List.cons_append, List.nil_append] at H)
        have F := H.facts; simp only [Facts, NeF, box, row, reg, cellsF, rByte, rCert, rCertKey, rInt, ne_eq, true_and, and_true, Nat.reduceAdd, Nat.zero_add] at F
        all_goals
          go_wp2_with fail
          go_roundw
          case rel => exact ⟨k + 1, HK1.out.1, by go_num, B0, d0, cs2, B1, d1, ks2, B2, d2, ds, HN, Lib.hid (Hp.sel (by with_reducible repeat (first | exact H | apply Hp.alloc | apply Hp.set | apply Hp.drew | apply Hp.drewN | apply Hp.bytesW | exact Upd.here | exact Upd.hereR | apply Upd.there | apply Sz.alloc | apply Sz.set | apply Sz.drew | apply Sz.drewN | apply Sz.bytesW | assumption | exact Sz.base _)) (by (try simp only [List.cons_append, List.nil_append, List.set_cons_zero, List.set_cons_succ]); (with_reducible repeat (first | exact Sel.nil | apply Sel.cons | exact Del.here | apply Del.there)); (try (refine Sel.tlC ?_; (with_reducible repeat (first | exact TlC.here | apply TlC.there))))))⟩
          case measure => have := HK1.out.2; simp [intOf]; omega
      · have hk1 : ¬ (k : Int) < (m : Int) := by omega
        clear hlt
        by_cases h0 : 0 < cs.length
        · have h0d : decide ((0 : Int) < (cs.length : Int)) = true := decide_eq_true (by omega)
          obtain ⟨g0, rfl⟩ := rowGc (H.rowM (show rCert A0 c0 cs ∈ _ from (by with_reducible repeat (first | exact List.mem_cons_self | apply List.mem_cons_of_mem)))) h0
          obtain ⟨k2, hk2, hk2e⟩ : ∃ k2 : Nat, k2 < cs.length ∧ IntKind.i64.wrap ((cs.length : Int) - 1) = (k2 : Int) := ⟨cs.length - 1, by omega, by rw [IntKind.wrap_i64]; omega⟩
          have hk2f : (cs.length : Int) - 1 = (k2 : Int) := by rw [← hk2e, IntKind.wrap_i64]; omega
          have hwk : IntKind.i64.wrap (k2 : Int) = (k2 : Int) := by rw [IntKind.wrap_i64]; omega
          have hk2i : (k2 : Int) < (cs.length : Int) := by omega
          have hk20 : (0 : Int) ≤ (k2 : Int) := by omega
          have q0 := (Rd.certAt (w := wr) (A := some ⟨g0, 0, none⟩) (n := cs.length) (c := c0) (us := cs) (k := k2) (H.rdM (show row 30 8 (.slice (some ⟨g0, 0, none⟩) cs.length c0) cs.length (cs.flatMap encCert) ∈ _ from (by with_reducible repeat (first | exact List.mem_cons_self | apply List.mem_cons_of_mem)))) rfl hk2 rfl wr (Below.refl _ _)).1
          simp only [Nat.zero_add] at q0
          have hq0 : ∀ (W : World) (M : List Ent), Hp w W M → rCert (some ⟨g0, 0, none⟩) c0 cs ∈ M → W.cell? ⟨g0, k2 * 8, none⟩ = some (.int .i64 (cs[k2]).ser) := fun W M h hm9 => by
            have := (Rd.certAt (w := W) (A := some ⟨g0, 0, none⟩) (n := cs.length) (c := c0) (us := cs) (k := k2) (h.rdM (show row 30 8 (.slice (some ⟨g0, 0, none⟩) cs.length c0) cs.length (cs.flatMap encCert) ∈ M from hm9)) rfl hk2 rfl W (Below.refl _ _)).1
            simpa using this
          have HQ0 := Lib.hid hq0; clear hq0
          generalize (cs[k2]).ser = sx at *
          have hne := Hp.ne_rowC (f := w.heap.size) (g := g0) (t := 28) (cs := [.slice none 0 0, .slice none 0 0, .slice none 0 0]) (e := 30) (k := 8) (n := cs.length) (c := c0) (m := cs.length) (xs := cs.flatMap encCert) H (by (with_reducible repeat (first | exact Sel.nil | apply Sel.cons | exact Del.here | apply Del.there)))
          go_wp2_with fail
          go_region_held3 (fun w' => w'.cell? ⟨w1.heap.size, 0, none⟩ = some (.slice (some ⟨g0, 0, none⟩) cs.length c0) ∧ w'.cell? ⟨w1.heap.size, 1, none⟩ = some (.slice A1 ks.length c1) ∧ w'.cell? ⟨w1.heap.size, 2, none⟩ = some (.slice A2 ds.length c2) ∧ w'.cell? ⟨g0, k2 * 8, none⟩ = some (.int .i64 sx)) (first | go_keep | simp [go_sem, *]) (first | (go_at_call 41; refine (l01Below_hp b A n c bs w _ _ _ (by with_reducible repeat (first | exact H | apply Hp.alloc | apply Hp.set | apply Hp.drew | apply Hp.drewN | apply Hp.bytesW | exact Upd.here | exact Upd.hereR | apply Upd.there | apply Sz.alloc | apply Sz.set | apply Sz.drew | apply Sz.drewN | apply Sz.bytesW | assumption | exact Sz.base _)) (by with_reducible repeat (first | exact hm | exact List.mem_cons_self | apply List.mem_cons_of_mem)) hr hn (by omega) (by omega)).mono ?_; rintro e wz2 ⟨z2, rfl, hz2, H2⟩; replace H := H2; clear H2; (try simp only [List.set_cons_zero, List.set_cons_succ, List.cons_append, List.nil_append] at H); (try clear F); (try have F := H.facts; simp only [Facts, NeF, box, row, reg, cellsF, rByte, rCert, rCertKey, rInt, ne_eq, true_and, and_true, Nat.reduceAdd, Nat.zero_add] at F); have q9 := HQ0.out _ _ H (by with_reducible repeat (first | exact List.mem_cons_self | apply List.mem_cons_of_mem))))
          all_goals
            go_wp2_with fail
            refine bodyPost_ret (v := .tuple #[pileV (some ⟨g0, 0, none⟩) cs.length c0 A1 ks.length c1 A2 ds.length c2, .int .i64 sx, .int .i64 z2]) (by simp [results, Tryz.results13, go_sem, F]) rfl ⟨some ⟨g0, 0, none⟩, c0, cs, A1, c1, ks, A2, c2, ds, sx, z2, rfl, HPD.out, (Hp.sel (by with_reducible repeat (first | exact H | apply Hp.alloc | apply Hp.set | apply Hp.drew | apply Hp.drewN | apply Hp.bytesW | exact Upd.here | exact Upd.hereR | apply Upd.there | apply Sz.alloc | apply Sz.set | apply Sz.drew | apply Sz.drewN | apply Sz.bytesW | assumption | exact Sz.base _)) (by (try simp only [List.cons_append, List.nil_append, List.set_cons_zero, List.set_cons_succ]); (with_reducible repeat (first | exact Sel.nil | apply Sel.cons | exact Del.here | apply Del.there)); (try (refine Sel.tlC ?_; (with_reducible repeat (first | exact TlC.here | apply TlC.there))))))⟩
        · have h0d : decide ((0 : Int) < (cs.length : Int)) = false := decide_eq_false (by omega)
          go_wp2_with fail
          go_region_law (first | (go_simp; go_at_call 42; refine (l12DrawSerial_hp b A n c bs w _ _ A0 c0 cs A1 ks.length c1 A2 ds.length c2 (by with_reducible repeat (first | exact H | apply Hp.alloc | apply Hp.set | apply Hp.drew | apply Hp.drewN | apply Hp.bytesW | exact Upd.here | exact Upd.hereR | apply Upd.there | apply Sz.alloc | apply Sz.set | apply Sz.drew | apply Sz.drewN | apply Sz.bytesW | assumption | exact Sz.base _)) (by with_reducible repeat (first | exact hm | exact List.mem_cons_self | apply List.mem_cons_of_mem)) hr hn (by with_reducible repeat (first | exact List.mem_cons_self | apply List.mem_cons_of_mem)) h60).mono ?_; rintro e wz5 ⟨x5, rfl, H1⟩; replace H := H1; clear H1; (try simp only [List.set_cons_zero, List.set_cons_succ, List.cons_append, List.nil_append] at H); (try clear F); have F := H.facts; simp only [Facts, NeF, box, row, reg, cellsF, rByte, rCert, rCertKey, rInt, ne_eq, true_and, and_true, Nat.reduceAdd, Nat.zero_add] at F) | (go_simp; go_at_call 41; refine (l01Below_hp b A n c bs w _ _ _ (by with_reducible repeat (first | exact H | apply Hp.alloc | apply Hp.set | apply Hp.drew | apply Hp.drewN | apply Hp.bytesW | exact Upd.here | exact Upd.hereR | apply Upd.there | apply Sz.alloc | apply Sz.set | apply Sz.drew | apply Sz.drewN | apply Sz.bytesW | assumption | exact Sz.base _)) (by with_reducible repeat (first | exact hm | exact List.mem_cons_self | apply List.mem_cons_of_mem)) hr hn (by omega) (by omega)).mono ?_; rintro e wz2 ⟨z2, rfl, hz2, H2⟩; replace H := H2; clear H2; (try simp only [List.set_cons_zero, List.set_cons_succ, List.cons_append, List.nil_append] at H); (try clear F); (try have F := H.facts; simp only [Facts, NeF, box, row, reg, cellsF, rByte, rCert, rCertKey, rInt, ne_eq, true_and, and_true, Nat.reduceAdd, Nat.zero_add] at F)))
          all_goals
            go_wp2_with fail
            refine bodyPost_ret (v := .tuple #[pileV A0 cs.length c0 A1 ks.length c1 A2 ds.length c2, .int .i64 x5, .int .i64 z2]) (by simp [results, Tryz.results13, go_sem, F]) rfl ⟨A0, c0, cs, A1, c1, ks, A2, c2, ds, x5, z2, rfl, HPD.out, (Hp.sel (by with_reducible repeat (first | exact H | apply Hp.alloc | apply Hp.set | apply Hp.drew | apply Hp.drewN | apply Hp.bytesW | exact Upd.here | exact Upd.hereR | apply Upd.there | apply Sz.alloc | apply Sz.set | apply Sz.drew | apply Sz.drewN | apply Sz.bytesW | assumption | exact Sz.base _)) (by (try simp only [List.cons_append, List.nil_append, List.set_cons_zero, List.set_cons_succ]); (with_reducible repeat (first | exact Sel.nil | apply Sel.cons | exact Del.here | apply Del.there)); (try (refine Sel.tlC ?_; (with_reducible repeat (first | exact TlC.here | apply TlC.there))))))⟩
end Go.Proofs.YtlblkpcjknjijaaGreatDoor

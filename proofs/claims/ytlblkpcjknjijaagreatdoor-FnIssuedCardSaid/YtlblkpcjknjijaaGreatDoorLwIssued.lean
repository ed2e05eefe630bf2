/- FnIssued: the walk. No condition. -/
import Derived.Test.YtlblkpcjknjijaaGreatDoorDrawE
import Derived.Test.YtlblkpcjknjijaaGreatDoorChainQ
import Derived.Test.YtlblkpcjknjijaaGreatDoorChLaw
import Derived.Test.YtlblkpcjknjijaaGreatDoorLwCheckChain
import Derived.Test.YtlblkpcjknjijaaGreatDoorIssueB
import Derived.Deep.DeepCutAuto
set_option linter.unusedVariables false
set_option linter.unusedSimpArgs false
namespace Go.Proofs.YtlblkpcjknjijaaGreatDoor
open Go.RowKit
set_option linter.unusedVariables false
set_option linter.unusedSimpArgs false
set_option maxHeartbeats 2000000 in
theorem withinC_any (A : Option Addr) (n c : Nat) (us : List Int) (x : Int) (w : World) (hr : Rd w w.heap.size 1 A n c (us.flatMap encInt)) (hn : us.length = n) :
    Calls Tryz.prog 9 #[.slice A n c, .int .i64 x] w fun e w' => e = .returned (.bool (hasI us x)) ∧ Below w.heap.size w w' := by
  have hc := hr.2.1
  have hm := hr.2.2.1
  unfold maxLen at hm
  go_enter Tryz.func9, Tryz.ntmps9
  go_wp2_with fail
  go_loop [5] (fun i => ∃ k : Nat, k ≤ n ∧ i = .int .i64 k ∧ Hid (hasI (us.take k) x = false)) (fun i => n - (intOf i).toNat)
  case atStart => exact ⟨0, Nat.zero_le _, rfl, rfl⟩
  case round =>
    obtain ⟨k, hk, rfl, HA⟩ := hrel
    by_cases hlt : k < n
    · obtain ⟨b, off, rfl, hb, -⟩ := hr.elem encInt_len hn hlt
      have c0 := Rd.intAt hr hn (k := k) (by omega) w (Below.refl _ _)
      have hk1 : (k : Int) < (n : Int) := by omega
      have hk0 : (0 : Int) ≤ (k : Int) := by omega
      by_cases h : (us[k]'(by omega)) = x
      · have HN : Hid (hasI us x = true) := contains_at (by omega) h
        generalize (us[k]'(by omega)) = y at *
        go_wp2_with fail
        go_ret
        exact ⟨by rw [HN.out]; rfl, Below.refl _ _⟩
      · have HN : Hid (hasI (us.take (k + 1)) x = false) := contains_snoc (by omega) h HA.out
        generalize (us[k]'(by omega)) = y at *
        go_wp2_with fail
        go_round
        case rel => exact ⟨k + 1, by omega, by go_num, HN⟩
        case measure => simp [intOf]; omega
    · have HN : Hid (hasI us x = false) := by have h := HA.out; rwa [List.take_of_length_le (by omega)] at h
      go_wp2_with fail
      go_ret
      exact ⟨by rw [HN.out]; rfl, Below.refl _ _⟩
theorem implIssue_at (A0 : Option Addr) (n0 c0 : Nat) (cs : List Cert) (A1 : Option Addr) (n1 c1 : Nat) (ks : List CertKey) (A2 : Option Addr) (n2 c2 : Nat) (ds : List Int) (c : Cert) (key : Int) (rcs : List Cert) (rks : List CertKey) (rn : Int) (w : World) (hd : issueU cs ks ds c key = ⟨rcs, rks, rn⟩) (hr0 : Rd w w.heap.size 8 A0 n0 c0 (cs.flatMap encCert)) (hn0 : cs.length = n0) (hb0 : n0 ≤ 1048576) (hsz : ∀ u ∈ cs, CertFits u) (hr1 : Rd w w.heap.size 2 A1 n1 c1 (ks.flatMap encCertKey)) (hn1 : ks.length = n1) (hb1 : n1 ≤ 1048576) (hr2 : Rd w w.heap.size 1 A2 n2 c2 (ds.flatMap encInt)) (hn2 : ds.length = n2) (hb2 : n2 ≤ 1048576) (hco : c.owner.size ≤ maxLen) (hml : mlOk w) :
    Calls Tryz.prog 8 #[pileV A0 n0 c0 A1 n1 c1 A2 n2 c2, valCert c, .int .i64 key] w fun e w' => ∃ B0 d0 B1 d1 B2 d2, e = .returned (.tuple #[pileV B0 rcs.length d0 B1 rks.length d1 B2 ds.length d2, .int .i64 rn]) ∧ Hp w w' [rCert B0 d0 rcs, rCertKey B1 d1 rks, rInt B2 d2 ds] := implIssue_hp A0 n0 c0 cs A1 n1 c1 ks A2 n2 c2 ds c key ⟨rcs, rks, rn⟩ w hd hr0 hn0 hb0 hsz hr1 hn1 hb1 hr2 hn2 hb2 hco hml
theorem issued_ok {cs rcs : List Cert} {ks rks : List CertKey} {ds : List Int} {c : Cert} {key : Int} (h : issueU cs ks ds c key = ⟨rcs, rks, 0⟩) : pileOk cs ks ds = true := by
  unfold issueU at h
  by_cases hq : (pileOk cs ks ds && (certOk c && (inR key 0 1099511627776 && (!anyP (hasSer c.ser) cs && !decide (cs.length = 60))))) = true
  · simp only [Bool.and_eq_true] at hq; exact hq.1
  · rw [if_neg hq] at h
    injection h with h1 h2 h3
    exact absurd h3 (by decide)
theorem rd_tail {w0 W : World} {M : List Ent} {c g : Nat} {x : Int} {us : List Int} (H : Hp w0 W M) (hm : rInt (some ⟨g, 0, none⟩) c (x :: us) ∈ M) : W.cell? ⟨g, 0, none⟩ = some (.int .i64 x) ∧ Rd W W.heap.size 1 (some ⟨g, 1, none⟩) us.length (c - 1) (us.flatMap encInt) ∧ us.length + 1 ≤ c ∧ c ≤ maxLen ∧ g < W.heap.size := by
  have h : Rd W W.heap.size 1 (some ⟨g, 0, none⟩) (us.length + 1) c ((x :: us).flatMap encInt) := H.rdM (show row 3 1 (.slice (some ⟨g, 0, none⟩) (x :: us).length c) (x :: us).length ((x :: us).flatMap encInt) ∈ M from hm)
  obtain ⟨g', off, e, hb, hc⟩ := h.2.2.2 (Nat.succ_pos _)
  have h1 := h.2.1
  have h2 := h.2.2.1
  injection e with e; injection e with e1 e2 _; subst e1 e2
  refine ⟨hc 0 _ rfl, ⟨by rw [flat_len encInt 1 encInt_len], by omega, by omega, fun _ => ⟨g, 1, rfl, hb, fun j u hu => ?_⟩⟩, h1, h2, hb⟩
  have := hc (j + 1) u (by rw [List.flatMap_cons]; exact hu)
  rw [show 1 + j = 0 + (j + 1) by omega]; exact this
theorem rd_cut {w0 W : World} {M : List Ent} {c g : Nat} {x : Int} {us : List Int} (H : Hp w0 W M) (hm : rInt (some ⟨g, 0, none⟩) c (x :: us) ∈ M) : Rd W W.heap.size 1 (if c = 1 then some ⟨g, 0, none⟩ else some ⟨g, 1, none⟩) us.length (c - 1) (us.flatMap encInt) := by
  obtain ⟨-, h2, h3, h4, -⟩ := rd_tail H hm
  by_cases hc : c = 1
  · rw [if_pos hc]
    exact ⟨h2.1, h2.2.1, h2.2.2.1, fun h => by omega⟩
  · rw [if_neg hc]; exact h2
theorem rd_one {w0 W : World} {M : List Ent} {g : Nat} {x : Int} {us : List Int} (H : Hp w0 W M) (hm : rInt (some ⟨g, 0, none⟩) 1 (x :: us) ∈ M) : Rd W W.heap.size 1 (some ⟨g, 0, none⟩) us.length 0 (us.flatMap encInt) := by
  have := rd_cut H hm
  rwa [if_pos rfl] at this
theorem rd_two {w0 W : World} {M : List Ent} {c g : Nat} {x : Int} {us : List Int} (H : Hp w0 W M) (hm : rInt (some ⟨g, 0, none⟩) c (x :: us) ∈ M) : Rd W W.heap.size 1 (some ⟨g, 1, none⟩) us.length (c - 1) (us.flatMap encInt) := (rd_tail H hm).2.1
theorem rd_emp {W : World} {A : Option Addr} {c : Nat} (hc : c ≤ maxLen) : Rd W W.heap.size 1 A 0 c (([] : List Int).flatMap encInt) := ⟨rfl, Nat.zero_le _, hc, fun h => absurd h (Nat.lt_irrefl 0)⟩
theorem rd_none {W : World} {b : Nat} : Rd W W.heap.size 1 (some ⟨b, 0, none⟩) 0 0 (([] : List Int).flatMap encInt) := ⟨rfl, Nat.le_refl _, Nat.zero_le _, fun h => absurd h (Nat.lt_irrefl 0)⟩
set_option maxHeartbeats 32000000 in
set_option maxRecDepth 100000 in
theorem lawIssued (A : Option Addr) (n c : Nat) (bs : List UInt8) (w : World) (hr : Rd w w.heap.size 1 A n c (bs.flatMap encByte)) (hn : bs.length = n) (hml : mlOk w) :
    Calls Tryz.prog 3 #[.slice A n c] w fun e w' => e = .returned (.bool true) ∧ Below w.heap.size w w' := by
  have H := Hp.nil w
  have hnm : n ≤ maxLen := Nat.le_trans hr.2.1 hr.2.2.1
  by_cases hbig : 1048576 < n
  · go_enter Tryz.func3, Tryz.ntmps3
    go_wp2_with fail
    refine (bigC_any A n c _ hnm).mono ?_
    rintro e w0 ⟨rfl, rfl⟩
    rw [decide_eq_true hbig]
    go_wp2_with fail
    go_ret
    exact ⟨rfl, Hp.b (by with_reducible repeat (first | exact H | apply Hp.alloc | apply Hp.set | apply Hp.drew | apply Hp.drewN | apply Hp.bytesW | exact Upd.here | exact Upd.hereR | apply Upd.there | apply Sz.alloc | apply Sz.set | apply Sz.drew | apply Sz.drewN | apply Sz.bytesW | assumption | exact Sz.base _))⟩
  go_enter Tryz.func3, Tryz.ntmps3
  go_wp2_with fail
  refine (bigC_any A n c _ hnm).mono ?_
  rintro e w0 ⟨rfl, rfl⟩
  rw [decide_eq_false hbig]
  go_wp2_with fail
  refine (DrawIssueCert_hp A n c bs _ (hr.grow (Hp.b (by with_reducible repeat (first | exact H | apply Hp.alloc | apply Hp.set | apply Hp.drew | apply Hp.drewN | apply Hp.bytesW | exact Upd.here | exact Upd.hereR | apply Upd.there | apply Sz.alloc | apply Sz.set | apply Sz.drew | apply Sz.drewN | apply Sz.bytesW | assumption | exact Sz.base _)))) hn).mono ?_
  rintro e w1 ⟨A0, c0, cs, A1, c1, ks, A2, c2, ds, x, key, rfl, hP, hxo, h1⟩
  replace H := Hp.call (by with_reducible repeat (first | exact H | apply Hp.alloc | apply Hp.set | apply Hp.drew | apply Hp.drewN | apply Hp.bytesW | exact Upd.here | exact Upd.hereR | apply Upd.there | apply Sz.alloc | apply Sz.set | apply Sz.drew | apply Sz.drewN | apply Sz.bytesW | assumption | exact Sz.base _)) h1; (try simp only [List.set_cons_zero, List.set_cons_succ, List.cons_append, List.nil_append] at H); clear h1; (try clear F); have F := H.facts; simp only [Facts, NeF, box, row, reg, cellsF, rCert, rCertKey, rInt, ne_eq, true_and, and_true, Nat.reduceAdd, Nat.zero_add] at F
  have HP := Lib.hid hP
  clear hP
  obtain ⟨⟨rcs, rks, rn⟩, hri⟩ : ∃ rr, issueU cs ks ds x key = rr := ⟨_, rfl⟩
  have HRI := Lib.hid hri
  clear hri
  have h60 : cs.length ≤ 60 := HP.out.1
  have h61 : ks.length ≤ 60 := by have := HP.out.2.1; omega
  have h62 : ds.length ≤ 61 := HP.out.2.2.1
  have HFI := Lib.hid (pilD_fits HP.out)
  have hxm : x.owner.size ≤ maxLen := by unfold maxLen; omega
  have hn20 : n ≤ 1048576 := by omega
  clear hbig
  go_wp2_with fail
  refine call_atC (w0 := w) (by with_reducible repeat (first | exact H | apply Hp.alloc | apply Hp.set | apply Hp.drew | apply Hp.drewN | apply Hp.bytesW | exact Upd.here | exact Upd.hereR | apply Upd.there | apply Sz.alloc | apply Sz.set | apply Sz.drew | apply Sz.drewN | apply Sz.bytesW | assumption | exact Sz.base _)) fun H7 => ?_
  (try simp only [List.set_cons_zero, List.set_cons_succ, List.cons_append, List.nil_append] at H7)
  refine (specIssue_at A0 cs.length c0 cs A1 ks.length c1 ks A2 ds.length c2 ds x key rcs rks rn _ HRI.out (Hp.rdM H7 (show rCert A0 c0 cs ∈ _ from (by with_reducible repeat (first | exact List.mem_cons_self | apply List.mem_cons_of_mem)))) rfl (by omega) HFI.out (Hp.rdM H7 (show rCertKey A1 c1 ks ∈ _ from (by with_reducible repeat (first | exact List.mem_cons_self | apply List.mem_cons_of_mem)))) rfl (by omega) (Hp.rdM H7 (show rInt A2 c2 ds ∈ _ from (by with_reducible repeat (first | exact List.mem_cons_self | apply List.mem_cons_of_mem)))) rfl (by omega) hxm).mono ?_
  rintro e w2 ⟨B0, d0, B1, d1, B2, d2, rfl, h2⟩
  clear H F
  have H := Hp.call H7 h2
  clear h2 H7
  (try simp only [List.set_cons_zero, List.set_cons_succ, List.cons_append, List.nil_append] at H)
  have F := H.facts; simp only [Facts, NeF, box, row, reg, cellsF, rCert, rCertKey, rInt, ne_eq, true_and, and_true, Nat.reduceAdd, Nat.zero_add] at F
  go_wp2_with fail
  refine call_atC (w0 := w) (by with_reducible repeat (first | exact H | apply Hp.alloc | apply Hp.set | apply Hp.drew | apply Hp.drewN | apply Hp.bytesW | exact Upd.here | exact Upd.hereR | apply Upd.there | apply Sz.alloc | apply Sz.set | apply Sz.drew | apply Sz.drewN | apply Sz.bytesW | assumption | exact Sz.base _)) fun H7 => ?_
  (try simp only [List.set_cons_zero, List.set_cons_succ, List.cons_append, List.nil_append] at H7)
  refine (implIssue_at A0 cs.length c0 cs A1 ks.length c1 ks A2 ds.length c2 ds x key rcs rks rn _ HRI.out (Hp.rdM H7 (show rCert A0 c0 cs ∈ _ from (by with_reducible repeat (first | exact List.mem_cons_self | apply List.mem_cons_of_mem)))) rfl (by omega) HFI.out (Hp.rdM H7 (show rCertKey A1 c1 ks ∈ _ from (by with_reducible repeat (first | exact List.mem_cons_self | apply List.mem_cons_of_mem)))) rfl (by omega) (Hp.rdM H7 (show rInt A2 c2 ds ∈ _ from (by with_reducible repeat (first | exact List.mem_cons_self | apply List.mem_cons_of_mem)))) rfl (by omega) hxm (hml.on H7.b)).mono ?_
  rintro e w3 ⟨E0, f0, E1, f1, E2, f2, rfl, h3⟩
  clear H F
  have H := Hp.call H7 h3
  clear h3 H7
  (try simp only [List.set_cons_zero, List.set_cons_succ, List.cons_append, List.nil_append] at H)
  have F := H.facts; simp only [Facts, NeF, box, row, reg, cellsF, rCert, rCertKey, rInt, ne_eq, true_and, and_true, Nat.reduceAdd, Nat.zero_add] at F
  by_cases hrn : rn = 0
  · subst hrn
    have hok := issued_ok HRI.out
    have hok2 : pileOk rcs rks ds = true := by have := issue_pile x key hok; rw [HRI.out] at this; exact this
    have hP2 := pilD_ok hok2
    have HF2 := Lib.hid (pilD_fits hP2)
    have r60 : rcs.length ≤ 60 := hP2.1
    have r61 : rks.length ≤ 60 := by have := hP2.2.1; omega
    clear hok hok2 hP2
    cases hin : hasI ds x.ser with
    | true =>
      have HIN := Lib.hid hin
      clear hin
      go_wp2_with (go_at_call 9; refine (withinC_any A2 ds.length c2 ds x.ser _ (Hp.rdM (by with_reducible repeat (first | exact H | apply Hp.alloc | apply Hp.set | apply Hp.drew | apply Hp.drewN | apply Hp.bytesW | exact Upd.here | exact Upd.hereR | apply Upd.there | apply Sz.alloc | apply Sz.set | apply Sz.drew | apply Sz.drewN | apply Sz.bytesW | assumption | exact Sz.base _)) (by with_reducible repeat (first | exact List.mem_cons_self | apply List.mem_cons_of_mem))) rfl).mono ?_; rintro e w4 ⟨rfl, q4⟩; rw [HIN.out]; replace H := Hp.step (by with_reducible repeat (first | exact H | apply Hp.alloc | apply Hp.set | apply Hp.drew | apply Hp.drewN | apply Hp.bytesW | exact Upd.here | exact Upd.hereR | apply Upd.there | apply Sz.alloc | apply Sz.set | apply Sz.drew | apply Sz.drewN | apply Sz.bytesW | assumption | exact Sz.base _)) q4; (try simp only [List.set_cons_zero, List.set_cons_succ, List.cons_append, List.nil_append] at H); clear q4 F; have F := H.facts; simp only [Facts, NeF, box, row, reg, cellsF, rCert, rCertKey, rInt, ne_eq, true_and, and_true, Nat.reduceAdd, Nat.zero_add] at F)
      go_ret
      exact ⟨rfl, Hp.b (by with_reducible repeat (first | exact H | apply Hp.alloc | apply Hp.set | apply Hp.drew | apply Hp.drewN | apply Hp.bytesW | exact Upd.here | exact Upd.hereR | apply Upd.there | apply Sz.alloc | apply Sz.set | apply Sz.drew | apply Sz.drewN | apply Sz.bytesW | assumption | exact Sz.base _))⟩
    | false =>
      obtain ⟨hI0, hI1⟩ := issue_law HRI.out hin
      have HIN := Lib.hid hin
      clear hin
      by_cases hx0 : x.iss = 0
      · have HC0 := Lib.hid (hI0 hx0)
        have bx0 : (x.iss != 0) = false := by rw [hx0]; rfl
        clear hI0 hI1 hx0
        go_upto_region 10 with (go_at_call 9; refine (withinC_any A2 ds.length c2 ds x.ser _ (Hp.rdM (by with_reducible repeat (first | exact H | apply Hp.alloc | apply Hp.set | apply Hp.drew | apply Hp.drewN | apply Hp.bytesW | exact Upd.here | exact Upd.hereR | apply Upd.there | apply Sz.alloc | apply Sz.set | apply Sz.drew | apply Sz.drewN | apply Sz.bytesW | assumption | exact Sz.base _)) (by with_reducible repeat (first | exact List.mem_cons_self | apply List.mem_cons_of_mem))) rfl).mono ?_; rintro e w4 ⟨rfl, q4⟩; rw [HIN.out]; replace H := Hp.step (by with_reducible repeat (first | exact H | apply Hp.alloc | apply Hp.set | apply Hp.drew | apply Hp.drewN | apply Hp.bytesW | exact Upd.here | exact Upd.hereR | apply Upd.there | apply Sz.alloc | apply Sz.set | apply Sz.drew | apply Sz.drewN | apply Sz.bytesW | assumption | exact Sz.base _)) q4; (try simp only [List.set_cons_zero, List.set_cons_succ, List.cons_append, List.nil_append] at H); clear q4 F; have F := H.facts; simp only [Facts, NeF, box, row, reg, cellsF, rCert, rCertKey, rInt, ne_eq, true_and, and_true, Nat.reduceAdd, Nat.zero_add] at F)
        go_cut [10] (fun s10 wc => ∃ (X6 : Option Addr) (y6 : Nat) (over : List Int), s10 = .slice X6 over.length y6 ∧ Hid (over = []) ∧ Hp w wc [rInt X6 y6 over, box w3.heap.size 28 [.slice E0 rcs.length f0, .slice E1 rks.length f1, .slice E2 ds.length f2], rCert E0 f0 rcs, rCertKey E1 f1 rks, rInt E2 f2 ds, box (w1.heap.size + 1) 30 [.int .i64 x.ser, .string x.owner, .int .i64 x.iss, .int .i64 x.from_, .int .i64 x.to_, .bool x.ca, .int .i64 x.depth, .int .i64 x.mark]])
        case first =>
          have H0 : Hp w w4 [box w3.heap.size 28 [.slice E0 rcs.length f0, .slice E1 rks.length f1, .slice E2 ds.length f2], rCert E0 f0 rcs, rCertKey E1 f1 rks, rInt E2 f2 ds, box (w1.heap.size + 1) 30 [.int .i64 x.ser, .string x.owner, .int .i64 x.iss, .int .i64 x.from_, .int .i64 x.to_, .bool x.ca, .int .i64 x.depth, .int .i64 x.mark]] := (by refine Hp.sel (by with_reducible repeat (first | exact H | apply Hp.alloc | apply Hp.set | apply Hp.drew | apply Hp.drewN | apply Hp.bytesW | exact Upd.here | exact Upd.hereR | apply Upd.there | apply Sz.alloc | apply Sz.set | apply Sz.drew | apply Sz.drewN | apply Sz.bytesW | assumption | exact Sz.base _)) ?_; (try simp only [List.set_cons_zero, List.set_cons_succ]); exact (by with_reducible repeat (first | exact Sel.nil | apply Sel.cons | exact Del.here | apply Del.there)))
          clear H F; have H := H0; clear H0; have F := H.facts; simp only [Facts, NeF, box, row, reg, cellsF, rCert, rCertKey, rInt, ne_eq, true_and, and_true, Nat.reduceAdd, Nat.zero_add] at F
          go_wp2_with fail
          go_meet
          exact ⟨some ⟨w4.heap.size, 0, none⟩, 0, [], rfl, rfl, Hp.give (Hp.boxRow (by with_reducible repeat (first | exact H | apply Hp.alloc | apply Hp.set | apply Hp.drew | apply Hp.drewN | apply Hp.bytesW | exact Upd.here | exact Upd.hereR | apply Upd.there | apply Sz.alloc | apply Sz.set | apply Sz.drew | apply Sz.drewN | apply Sz.bytesW | assumption | exact Sz.base _)) 0 1 0 0 (by rfl) (by rfl) (Nat.le_refl _) (Nat.zero_le _)) [0, 1, 2, 3, 4, 5] (by decide) (by rfl)⟩
        case rest =>
        clear H F
        obtain ⟨X6, y6, over, rfl, HOVR, H⟩ := hcut
        have F := H.facts; simp only [Facts, NeF, box, row, reg, cellsF, rCert, rCertKey, rInt, ne_eq, true_and, and_true, Nat.reduceAdd, Nat.zero_add] at F
        have HCH : Hid (chainU rcs rks ds x.ser x.from_ = (x.ser :: over, 0)) := by show _ = _; rw [HOVR.out]; exact HC0.out
        clear HC0 HOVR
        go_wp2_with fail
        refine call_atC (w0 := w) (by with_reducible repeat (first | exact H | apply Hp.alloc | apply Hp.set | apply Hp.drew | apply Hp.drewN | apply Hp.bytesW | exact Upd.here | exact Upd.hereR | apply Upd.there | apply Sz.alloc | apply Sz.set | apply Sz.drew | apply Sz.drewN | apply Sz.bytesW | assumption | exact Sz.base _)) fun H7 => ?_
        (try simp only [List.set_cons_zero, List.set_cons_succ, List.cons_append, List.nil_append] at H7)
        refine (implChain_hp E0 rcs.length f0 rcs E1 rks.length f1 rks E2 ds.length f2 ds x.ser x.from_ (x.ser :: over) 0 _ HCH.out (Hp.rdM H7 (show rCert E0 f0 rcs ∈ _ from (by with_reducible repeat (first | exact List.mem_cons_self | apply List.mem_cons_of_mem)))) rfl (by omega) HF2.out (Hp.rdM H7 (show rCertKey E1 f1 rks ∈ _ from (by with_reducible repeat (first | exact List.mem_cons_self | apply List.mem_cons_of_mem)))) rfl (Hp.rdM H7 (show rInt E2 f2 ds ∈ _ from (by with_reducible repeat (first | exact List.mem_cons_self | apply List.mem_cons_of_mem)))) rfl (by omega) (hml.on H7.b)).mono ?_
        rintro e w7 ⟨X7, y7, rfl, h9⟩
        clear H F
        have H := Hp.call H7 h9
        clear h9 H7
        (try simp only [List.set_cons_zero, List.set_cons_succ, List.cons_append, List.nil_append] at H)
        have F := H.facts; simp only [Facts, NeF, box, row, reg, cellsF, rCert, rCertKey, rInt, ne_eq, true_and, and_true, Nat.reduceAdd, Nat.zero_add] at F
        obtain ⟨g7, rfl⟩ := rowGc (H.rowM (show rInt X7 y7 (x.ser :: over) ∈ _ from (by with_reducible repeat (first | exact List.mem_cons_self | apply List.mem_cons_of_mem)))) (Nat.succ_pos _)
        obtain ⟨c9, -, hy7, hy8, -⟩ := rd_tail H (show rInt (some ⟨g7, 0, none⟩) y7 (x.ser :: over) ∈ _ from (by with_reducible repeat (first | exact List.mem_cons_self | apply List.mem_cons_of_mem)))
        unfold maxLen at hy8
        have HR9 : Hid (∀ (W : World) (M : List Ent), Hp w W M → rInt (some ⟨g7, 0, none⟩) y7 (x.ser :: over) ∈ M → _) := fun W M h hm9 => rd_tail h hm9
        have HRC : Hid (∀ (W : World) (M : List Ent), Hp w W M → rInt (some ⟨g7, 0, none⟩) y7 (x.ser :: over) ∈ M → _) := fun W M h hm9 => rd_cut h hm9
        have hy9i : (over.length : Int) + 1 ≤ (y7 : Int) := by omega
        have hs1 : (1 : Int) ≤ (over.length : Int) + 1 := by omega
        have hs2 : ¬ ((over.length : Int) + 1 < 1) := by omega
        have hs3 : ¬ ((y7 : Int) < 1) := by omega
        have hs4 : (1 : Int) ≤ (y7 : Int) := by omega
        have hs5 : ¬ ((y7 : Int) < (over.length : Int) + 1) := by omega
        have hwl : IntKind.i64.wrap ((over.length : Int) + 1) = (over.length : Int) + 1 := by rw [IntKind.wrap_i64]; omega
        clear hy8 bx0 hxm hn20 HRI HIN HFI HF2 HP h60 h61 h62 r60 r61 HCH 
        have H0 : Hp w w7 [rInt (some ⟨g7, 0, none⟩) y7 (x.ser :: over), rInt X6 y6 over, box (w1.heap.size + 1) 30 [.int .i64 x.ser, .string x.owner, .int .i64 x.iss, .int .i64 x.from_, .int .i64 x.to_, .bool x.ca, .int .i64 x.depth, .int .i64 x.mark]] := (by refine Hp.sel (by with_reducible repeat (first | exact H | apply Hp.alloc | apply Hp.set | apply Hp.drew | apply Hp.drewN | apply Hp.bytesW | exact Upd.here | exact Upd.hereR | apply Upd.there | apply Sz.alloc | apply Sz.set | apply Sz.drew | apply Sz.drewN | apply Sz.bytesW | assumption | exact Sz.base _)) ?_; (try simp only [List.set_cons_zero, List.set_cons_succ]); exact (by with_reducible repeat (first | exact Sel.nil | apply Sel.cons | exact Del.here | apply Del.there)))
        clear H F; have H := H0; clear H0; have F := H.facts; simp only [Facts, NeF, box, row, reg, cellsF, rCert, rCertKey, rInt, ne_eq, true_and, and_true, Nat.reduceAdd, Nat.zero_add] at F
        obtain ⟨Ay, hAy⟩ : ∃ A : Option Addr, (if y7 = 1 then some (⟨g7, 0, none⟩ : Addr) else some ⟨g7, 1, none⟩) = A := ⟨_, rfl⟩
        rw [hAy] at HRC
        go_upto_region 17 with fail
        go_region_held3 (fun w' => w'.cell? ⟨g7, 0, none⟩ = some (.int .i64 x.ser) ∧ w'.cell? ⟨w1.heap.size + 1, 0, none⟩ = some (.int .i64 x.ser)) (first | go_keep | simp [go_sem, *]) (first | (go_at_call 12; refine (sameInts_any Ay X6 over.length (y7 - 1) y6 over _ (HRC.out _ _ (by with_reducible repeat (first | exact H | apply Hp.alloc | apply Hp.set | apply Hp.drew | apply Hp.drewN | apply Hp.bytesW | exact Upd.here | exact Upd.hereR | apply Upd.there | apply Sz.alloc | apply Sz.set | apply Sz.drew | apply Sz.drewN | apply Sz.bytesW | assumption | exact Sz.base _)) (by with_reducible repeat (first | exact List.mem_cons_self | apply List.mem_cons_of_mem))) (Hp.rdM (by with_reducible repeat (first | exact H | apply Hp.alloc | apply Hp.set | apply Hp.drew | apply Hp.drewN | apply Hp.bytesW | exact Upd.here | exact Upd.hereR | apply Upd.there | apply Sz.alloc | apply Sz.set | apply Sz.drew | apply Sz.drewN | apply Sz.bytesW | assumption | exact Sz.base _)) (show rInt X6 y6 over ∈ _ from (by with_reducible repeat (first | exact List.mem_cons_self | apply List.mem_cons_of_mem)))) rfl).mono ?_; rintro e w8 ⟨rfl, q8⟩; replace H := Hp.step (by with_reducible repeat (first | exact H | apply Hp.alloc | apply Hp.set | apply Hp.drew | apply Hp.drewN | apply Hp.bytesW | exact Upd.here | exact Upd.hereR | apply Upd.there | apply Sz.alloc | apply Sz.set | apply Sz.drew | apply Sz.drewN | apply Sz.bytesW | assumption | exact Sz.base _)) q8; (try simp only [List.set_cons_zero, List.set_cons_succ, List.cons_append, List.nil_append] at H); clear q8 F; have F := H.facts; simp only [Facts, NeF, box, row, reg, cellsF, rCert, rCertKey, rInt, ne_eq, true_and, and_true, Nat.reduceAdd, Nat.zero_add] at F; have c8 := (HR9.out _ _ H (by with_reducible repeat (first | exact List.mem_cons_self | apply List.mem_cons_of_mem))).1))
        all_goals
          go_wp2_with fail
          go_ret
          exact ⟨rfl, Hp.b (by with_reducible repeat (first | exact H | apply Hp.alloc | apply Hp.set | apply Hp.drew | apply Hp.drewN | apply Hp.bytesW | exact Upd.here | exact Upd.hereR | apply Upd.there | apply Sz.alloc | apply Sz.set | apply Sz.drew | apply Sz.drewN | apply Sz.bytesW | assumption | exact Sz.base _))⟩
      · have bx0 : (x.iss != 0) = true := by simp [hx0]
        have HI1 := Lib.hid fun over h => hI1 over hx0 h
        clear hI0 hI1 hx0
        obtain ⟨over, rc, hov⟩ : ∃ a b, chainU cs ks ds x.iss x.from_ = (a, b) := ⟨_, _, rfl⟩
        have HOV := Lib.hid hov
        have ho7 : over.length ≤ 7 := by have := chainU_len cs ks ds x.iss x.from_; rw [hov] at this; exact this
        clear hov
        go_wp2_with (go_at_call 9; refine (withinC_any A2 ds.length c2 ds x.ser _ (Hp.rdM (by with_reducible repeat (first | exact H | apply Hp.alloc | apply Hp.set | apply Hp.drew | apply Hp.drewN | apply Hp.bytesW | exact Upd.here | exact Upd.hereR | apply Upd.there | apply Sz.alloc | apply Sz.set | apply Sz.drew | apply Sz.drewN | apply Sz.bytesW | assumption | exact Sz.base _)) (by with_reducible repeat (first | exact List.mem_cons_self | apply List.mem_cons_of_mem))) rfl).mono ?_; rintro e w4 ⟨rfl, q4⟩; rw [HIN.out]; replace H := Hp.step (by with_reducible repeat (first | exact H | apply Hp.alloc | apply Hp.set | apply Hp.drew | apply Hp.drewN | apply Hp.bytesW | exact Upd.here | exact Upd.hereR | apply Upd.there | apply Sz.alloc | apply Sz.set | apply Sz.drew | apply Sz.drewN | apply Sz.bytesW | assumption | exact Sz.base _)) q4; (try simp only [List.set_cons_zero, List.set_cons_succ, List.cons_append, List.nil_append] at H); clear q4 F; have F := H.facts; simp only [Facts, NeF, box, row, reg, cellsF, rCert, rCertKey, rInt, ne_eq, true_and, and_true, Nat.reduceAdd, Nat.zero_add] at F)
        refine call_atC (w0 := w) (by with_reducible repeat (first | exact H | apply Hp.alloc | apply Hp.set | apply Hp.drew | apply Hp.drewN | apply Hp.bytesW | exact Upd.here | exact Upd.hereR | apply Upd.there | apply Sz.alloc | apply Sz.set | apply Sz.drew | apply Sz.drewN | apply Sz.bytesW | assumption | exact Sz.base _)) fun H7 => ?_
        (try simp only [List.set_cons_zero, List.set_cons_succ, List.cons_append, List.nil_append] at H7)
        refine (specChain_hp A0 cs.length c0 cs A1 ks.length c1 ks A2 ds.length c2 ds x.iss x.from_ over rc _ HOV.out (Hp.rdM H7 (show rCert A0 c0 cs ∈ _ from (by with_reducible repeat (first | exact List.mem_cons_self | apply List.mem_cons_of_mem)))) rfl HFI.out (Hp.rdM H7 (show rCertKey A1 c1 ks ∈ _ from (by with_reducible repeat (first | exact List.mem_cons_self | apply List.mem_cons_of_mem)))) rfl (Hp.rdM H7 (show rInt A2 c2 ds ∈ _ from (by with_reducible repeat (first | exact List.mem_cons_self | apply List.mem_cons_of_mem)))) rfl).mono ?_
        rintro e w6 ⟨X6, y6, rfl, h9⟩
        clear H F
        have H := Hp.call H7 h9
        clear h9 H7
        (try simp only [List.set_cons_zero, List.set_cons_succ, List.cons_append, List.nil_append] at H)
        have F := H.facts; simp only [Facts, NeF, box, row, reg, cellsF, rCert, rCertKey, rInt, ne_eq, true_and, and_true, Nat.reduceAdd, Nat.zero_add] at F
        by_cases hrc : rc = 0
        · subst hrc
          by_cases h6 : over.length = 6
          · have b6 : ((over.length : Int) == 6) = true := by rw [h6]; rfl
            clear h6
            go_wp2_with fail
            go_ret
            exact ⟨rfl, Hp.b (by with_reducible repeat (first | exact H | apply Hp.alloc | apply Hp.set | apply Hp.drew | apply Hp.drewN | apply Hp.bytesW | exact Upd.here | exact Upd.hereR | apply Upd.there | apply Sz.alloc | apply Sz.set | apply Sz.drew | apply Sz.drewN | apply Sz.bytesW | assumption | exact Sz.base _))⟩
          · have b6 : ((over.length : Int) == 6) = false := beq_eq_false_iff_ne.2 (by omega)
            have HCH := Lib.hid (HI1.out over HOV.out h6)
            clear h6
            go_wp2_with fail
            refine call_atC (w0 := w) (by with_reducible repeat (first | exact H | apply Hp.alloc | apply Hp.set | apply Hp.drew | apply Hp.drewN | apply Hp.bytesW | exact Upd.here | exact Upd.hereR | apply Upd.there | apply Sz.alloc | apply Sz.set | apply Sz.drew | apply Sz.drewN | apply Sz.bytesW | assumption | exact Sz.base _)) fun H7 => ?_
            (try simp only [List.set_cons_zero, List.set_cons_succ, List.cons_append, List.nil_append] at H7)
            refine (implChain_hp E0 rcs.length f0 rcs E1 rks.length f1 rks E2 ds.length f2 ds x.ser x.from_ (x.ser :: over) 0 _ HCH.out (Hp.rdM H7 (show rCert E0 f0 rcs ∈ _ from (by with_reducible repeat (first | exact List.mem_cons_self | apply List.mem_cons_of_mem)))) rfl (by omega) HF2.out (Hp.rdM H7 (show rCertKey E1 f1 rks ∈ _ from (by with_reducible repeat (first | exact List.mem_cons_self | apply List.mem_cons_of_mem)))) rfl (Hp.rdM H7 (show rInt E2 f2 ds ∈ _ from (by with_reducible repeat (first | exact List.mem_cons_self | apply List.mem_cons_of_mem)))) rfl (by omega) (hml.on H7.b)).mono ?_
            rintro e w7 ⟨X7, y7, rfl, h9⟩
            clear H F
            have H := Hp.call H7 h9
            clear h9 H7
            (try simp only [List.set_cons_zero, List.set_cons_succ, List.cons_append, List.nil_append] at H)
            have F := H.facts; simp only [Facts, NeF, box, row, reg, cellsF, rCert, rCertKey, rInt, ne_eq, true_and, and_true, Nat.reduceAdd, Nat.zero_add] at F
            obtain ⟨g7, rfl⟩ := rowGc (H.rowM (show rInt X7 y7 (x.ser :: over) ∈ _ from (by with_reducible repeat (first | exact List.mem_cons_self | apply List.mem_cons_of_mem)))) (Nat.succ_pos _)
            obtain ⟨c9, -, hy7, hy8, -⟩ := rd_tail H (show rInt (some ⟨g7, 0, none⟩) y7 (x.ser :: over) ∈ _ from (by with_reducible repeat (first | exact List.mem_cons_self | apply List.mem_cons_of_mem)))
            unfold maxLen at hy8
            have HR9 : Hid (∀ (W : World) (M : List Ent), Hp w W M → rInt (some ⟨g7, 0, none⟩) y7 (x.ser :: over) ∈ M → _) := fun W M h hm9 => rd_tail h hm9
            have HRC : Hid (∀ (W : World) (M : List Ent), Hp w W M → rInt (some ⟨g7, 0, none⟩) y7 (x.ser :: over) ∈ M → _) := fun W M h hm9 => rd_cut h hm9
            have hy9i : (over.length : Int) + 1 ≤ (y7 : Int) := by omega
            have hs1 : (1 : Int) ≤ (over.length : Int) + 1 := by omega
            have hs2 : ¬ ((over.length : Int) + 1 < 1) := by omega
            have hs3 : ¬ ((y7 : Int) < 1) := by omega
            have hs4 : (1 : Int) ≤ (y7 : Int) := by omega
            have hs5 : ¬ ((y7 : Int) < (over.length : Int) + 1) := by omega
            have hwl : IntKind.i64.wrap ((over.length : Int) + 1) = (over.length : Int) + 1 := by rw [IntKind.wrap_i64]; omega
            clear hy8 bx0 hxm hn20 HRI HIN HFI HF2 HP h60 h61 h62 r60 r61 HCH HI1 HOV b6
            have H0 : Hp w w7 [rInt (some ⟨g7, 0, none⟩) y7 (x.ser :: over), rInt X6 y6 over, box (w1.heap.size + 1) 30 [.int .i64 x.ser, .string x.owner, .int .i64 x.iss, .int .i64 x.from_, .int .i64 x.to_, .bool x.ca, .int .i64 x.depth, .int .i64 x.mark]] := (by refine Hp.sel (by with_reducible repeat (first | exact H | apply Hp.alloc | apply Hp.set | apply Hp.drew | apply Hp.drewN | apply Hp.bytesW | exact Upd.here | exact Upd.hereR | apply Upd.there | apply Sz.alloc | apply Sz.set | apply Sz.drew | apply Sz.drewN | apply Sz.bytesW | assumption | exact Sz.base _)) ?_; (try simp only [List.set_cons_zero, List.set_cons_succ]); exact (by with_reducible repeat (first | exact Sel.nil | apply Sel.cons | exact Del.here | apply Del.there)))
            clear H F; have H := H0; clear H0; have F := H.facts; simp only [Facts, NeF, box, row, reg, cellsF, rCert, rCertKey, rInt, ne_eq, true_and, and_true, Nat.reduceAdd, Nat.zero_add] at F
            obtain ⟨Ay, hAy⟩ : ∃ A : Option Addr, (if y7 = 1 then some (⟨g7, 0, none⟩ : Addr) else some ⟨g7, 1, none⟩) = A := ⟨_, rfl⟩
            rw [hAy] at HRC
            go_upto_region 17 with fail
            go_region_held3 (fun w' => w'.cell? ⟨g7, 0, none⟩ = some (.int .i64 x.ser) ∧ w'.cell? ⟨w1.heap.size + 1, 0, none⟩ = some (.int .i64 x.ser)) (first | go_keep | simp [go_sem, *]) (first | (go_at_call 12; refine (sameInts_any Ay X6 over.length (y7 - 1) y6 over _ (HRC.out _ _ (by with_reducible repeat (first | exact H | apply Hp.alloc | apply Hp.set | apply Hp.drew | apply Hp.drewN | apply Hp.bytesW | exact Upd.here | exact Upd.hereR | apply Upd.there | apply Sz.alloc | apply Sz.set | apply Sz.drew | apply Sz.drewN | apply Sz.bytesW | assumption | exact Sz.base _)) (by with_reducible repeat (first | exact List.mem_cons_self | apply List.mem_cons_of_mem))) (Hp.rdM (by with_reducible repeat (first | exact H | apply Hp.alloc | apply Hp.set | apply Hp.drew | apply Hp.drewN | apply Hp.bytesW | exact Upd.here | exact Upd.hereR | apply Upd.there | apply Sz.alloc | apply Sz.set | apply Sz.drew | apply Sz.drewN | apply Sz.bytesW | assumption | exact Sz.base _)) (show rInt X6 y6 over ∈ _ from (by with_reducible repeat (first | exact List.mem_cons_self | apply List.mem_cons_of_mem)))) rfl).mono ?_; rintro e w8 ⟨rfl, q8⟩; replace H := Hp.step (by with_reducible repeat (first | exact H | apply Hp.alloc | apply Hp.set | apply Hp.drew | apply Hp.drewN | apply Hp.bytesW | exact Upd.here | exact Upd.hereR | apply Upd.there | apply Sz.alloc | apply Sz.set | apply Sz.drew | apply Sz.drewN | apply Sz.bytesW | assumption | exact Sz.base _)) q8; (try simp only [List.set_cons_zero, List.set_cons_succ, List.cons_append, List.nil_append] at H); clear q8 F; have F := H.facts; simp only [Facts, NeF, box, row, reg, cellsF, rCert, rCertKey, rInt, ne_eq, true_and, and_true, Nat.reduceAdd, Nat.zero_add] at F; have c8 := (HR9.out _ _ H (by with_reducible repeat (first | exact List.mem_cons_self | apply List.mem_cons_of_mem))).1))
            all_goals
              go_wp2_with fail
              go_ret
              exact ⟨rfl, Hp.b (by with_reducible repeat (first | exact H | apply Hp.alloc | apply Hp.set | apply Hp.drew | apply Hp.drewN | apply Hp.bytesW | exact Upd.here | exact Upd.hereR | apply Upd.there | apply Sz.alloc | apply Sz.set | apply Sz.drew | apply Sz.drewN | apply Sz.bytesW | assumption | exact Sz.base _))⟩
        · have hrc1 : (rc != 0) = true := by simp [hrc]
          go_wp2_with fail
          go_ret
          exact ⟨rfl, Hp.b (by with_reducible repeat (first | exact H | apply Hp.alloc | apply Hp.set | apply Hp.drew | apply Hp.drewN | apply Hp.bytesW | exact Upd.here | exact Upd.hereR | apply Upd.there | apply Sz.alloc | apply Sz.set | apply Sz.drew | apply Sz.drewN | apply Sz.bytesW | assumption | exact Sz.base _))⟩
  · have hrn1 : (rn != 0) = true := by simp [hrn]
    go_wp2_with fail
    go_ret
    exact ⟨rfl, Hp.b (by with_reducible repeat (first | exact H | apply Hp.alloc | apply Hp.set | apply Hp.drew | apply Hp.drewN | apply Hp.bytesW | exact Upd.here | exact Upd.hereR | apply Upd.there | apply Sz.alloc | apply Sz.set | apply Sz.drew | apply Sz.drewN | apply Sz.bytesW | assumption | exact Sz.base _))⟩
end Go.Proofs.YtlblkpcjknjijaaGreatDoor

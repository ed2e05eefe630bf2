/- Draws of piles. No condition. -/
import Derived.Test.YtlblkpcjknjijaaGreatDoorDrawC
import Derived.Test.YtlblkpcjknjijaaGreatDoorChainQ
import Derived.Test.YtlblkpcjknjijaaGreatDoorIssueD
import Derived.Test.YtlblkpcjknjijaaGreatDoorKillB
set_option linter.unusedVariables false
set_option linter.unusedSimpArgs false
namespace Go.Proofs.YtlblkpcjknjijaaGreatDoor
open Go.RowKit
set_option linter.unusedVariables false
set_option linter.unusedSimpArgs false
/-- What is known of a drawn pile. -/
def PilD (cs : List Cert) (ks : List CertKey) (ds : List Int) : Prop := cs.length ≤ 60 ∧ ks.length = cs.length ∧ ds.length ≤ 61 ∧ ∀ c ∈ cs, CertD c
theorem certD_ok {c : Cert} (h : certOk c = true) : CertD c := by
  obtain ⟨-, h2, -, h4, h5, h6⟩ := certOk_iff h
  exact ⟨h2, h4, h5, h6⟩
theorem pilD_ok {cs : List Cert} {ks : List CertKey} {ds : List Int} (h : pileOk cs ks ds = true) : PilD cs ks ds := by
  obtain ⟨h1, h2, h3, -, h5⟩ := pile_iff h
  refine ⟨h1, h2, by omega, fun c hc => ?_⟩
  obtain ⟨i, hi, rfl⟩ := List.getElem_of_mem hc
  exact certD_ok (pile_at h5 (Nat.le_refl _) h2 i hi).1
theorem pilD_fits {cs : List Cert} {ks : List CertKey} {ds : List Int} (h : PilD cs ks ds) : ∀ u ∈ cs, CertFits u := fun u hu => by
  have := (h.2.2.2 u hu).1
  unfold CertFits maxLen; omega
theorem issue_pile {cs : List Cert} {ks : List CertKey} {ds : List Int} (c : Cert) (key : Int) (h : pileOk cs ks ds = true) : pileOk (issueU cs ks ds c key).cs (issueU cs ks ds c key).ks ds = true := by
  unfold issueU
  by_cases hq : (pileOk cs ks ds && (certOk c && (inR key 0 1099511627776 && (!anyP (hasSer c.ser) cs && !decide (cs.length = 60))))) = true
  · rw [if_pos hq]
    simp only [Bool.and_eq_true, Bool.not_eq_true', decide_eq_false_iff_not] at hq
    obtain ⟨hok, hc, hkey, ha, h60⟩ := hq
    by_cases hm : mayU cs c = 0
    · rw [if_pos hm]
      have hN := ins_I (C := marked c (markF c (byU cs ks c key))) (c := c) (key := key) hok ((certOk_marked _ _).trans hc) rfl hkey ha h60
      obtain ⟨-, -, d60, dr, -⟩ := pile_iff hok
      obtain ⟨dr1, dr2⟩ := dead_iff.1 dr
      exact pile_of hN d60 dr1 dr2
    · rw [if_neg hm]; exact h
  · rw [if_neg hq]; exact h
theorem kill_pile {cs : List Cert} {ks : List CertKey} {ds rd : List Int} {rb : Bool} {x : Int} (h : pileOk cs ks ds = true) (hd : killU cs ks ds x = (rd, rb)) : pileOk cs ks rd = true := by
  unfold killU at hd
  by_cases hq : (pileOk cs ks ds && anyP (hasSer x) cs) = true
  · rw [if_pos hq] at hd
    rw [Bool.and_eq_true] at hq
    cases hx : hasI ds x with
    | true => rw [hx, if_pos rfl] at hd; rw [← (Prod.mk.inj hd).1]; exact h
    | false =>
      rw [hx, if_neg (by decide)] at hd
      by_cases h60 : ds.length = 60
      · rw [if_pos h60] at hd; rw [← (Prod.mk.inj hd).1]; exact h
      · rw [if_neg h60] at hd
        rw [← (Prod.mk.inj hd).1, pile_ins h hq.2 hx]
        simp [h60]
  · rw [if_neg hq] at hd; rw [← (Prod.mk.inj hd).1]; exact h
theorem flat_set {α : Type} {enc : α → List Value} {m : Nat} (hm : ∀ x, (enc x).length = m) : ∀ (us : List α) (k j : Nat) (v : Value) (x' : α) (hk : k < us.length), j < m → enc x' = (enc us[k]).set j v → (us.flatMap enc).set (k * m + j) v = (us.set k x').flatMap enc
  | [], k, j, v, x', hk, _, _ => absurd hk (Nat.not_lt_zero _)
  | u :: us, 0, j, v, x', hk, hj, hx => by
    rw [List.flatMap_cons, List.set_cons_zero, List.flatMap_cons, Nat.zero_mul, Nat.zero_add, List.set_append_left _ _ (by rw [hm]; exact hj), hx]; rfl
  | u :: us, k + 1, j, v, x', hk, hj, hx => by
    rw [List.flatMap_cons, List.set_cons_succ, List.flatMap_cons, List.set_append_right _ _ (by rw [hm, Nat.succ_mul]; omega), hm, show (k + 1) * m + j - m = k * m + j by rw [Nat.succ_mul]; omega, flat_set hm us k j v x' (Nat.lt_of_succ_lt_succ hk) hj hx]
theorem pil_set {cs : List Cert} {ks : List CertKey} {ds : List Int} {k : Nat} {y : Cert} (h : PilD cs ks ds) (hk : k < cs.length) (hy : CertD y) : PilD (cs.set k y) ks ds := by
  refine ⟨by rw [List.length_set]; exact h.1, by rw [List.length_set]; exact h.2.1, h.2.2.1, fun c hc => ?_⟩
  rcases List.mem_or_eq_of_mem_set hc with hc | rfl
  · exact h.2.2.2 c hc
  · exact hy
theorem call_atC {P : Program} {f : Nat} {args : Array Value} {w0 w : World} {L : List Ent} {Q : Ending → World → Prop} (H : Hp w0 w L) (k : Hp w0 w L → Calls P f args w Q) : Calls P f args w Q := k H
theorem Hp.intoC {w0 w : World} {L R : List Ent} (H : Hp w0 w L) (h : Hp w0 w L → Hp w0 w R) : Hp w0 w R := h H
set_option maxHeartbeats 16000000 in
set_option maxRecDepth 10000 in
theorem l12DrawPile_hp (b : Nat) (A : Option Addr) (n c : Nat) (bs : List UInt8) (w v : World) (L : List Ent) (m : Nat) (hm24 : m ≤ 24) (H : Hp w v L) (hm : curE b A n c ∈ L) (hr : Rd w w.heap.size 1 A n c (bs.flatMap encByte)) (hn : bs.length = n) :
    Calls Tryz.prog 47 #[.pointer (some ⟨b, 0, none⟩), .int .i64 m] v fun e w' => ∃ A0 c0 cs A1 c1 ks A2 c2 ds, e = .returned (pileV A0 cs.length c0 A1 ks.length c1 A2 ds.length c2) ∧ PilD cs ks ds ∧ Hp w w' (rCert A0 c0 cs :: rCertKey A1 c1 ks :: rInt A2 c2 ds :: L) := by
  obtain ⟨i0, hi0, hz0, hz1, hz2⟩ := info_parts Tryz.infoInt
  go_enter Tryz.func47, Tryz.ntmps47
  go_wp2_with fail
  have HH := Lib.hid H; clear H
  go_loopw [6, 7, 8] (fun i s7 s8 wr => ∃ k : Nat, k ≤ m ∧ i = .int .i64 k ∧ ∃ (A0 : Option Addr) (c0 : Nat) (cs : List Cert) (A1 : Option Addr) (c1 : Nat) (ks : List CertKey) (A2 : Option Addr) (c2 : Nat) (ds : List Int), Hid (pileOk cs ks ds = true) ∧ Hid (Hp w wr (box (v.heap.size + 1) 28 [.slice A0 cs.length c0, .slice A1 ks.length c1, .slice A2 ds.length c2] :: rCert A0 c0 cs :: rCertKey A1 c1 ks :: rInt A2 c2 ds :: box v.heap.size 28 [.slice none 0 0, .slice none 0 0, .slice none 0 0] :: L))) (fun i _ _ _ => m - (intOf i).toNat)
  case atStart =>
    have H := HH.out
    refine ⟨0, Nat.zero_le _, rfl, none, 0, [], none, 0, [], none, 0, [], by show _ = _; rfl, Lib.hid (Hp.intoC (by with_reducible repeat (first | exact H | apply Hp.alloc | apply Hp.set | apply Hp.drew | apply Hp.drewN | apply Hp.bytesW | exact Upd.here | exact Upd.hereR | apply Upd.there | apply Sz.alloc | apply Sz.set | apply Sz.drew | apply Sz.drewN | apply Sz.bytesW | assumption | exact Sz.base _)) fun H1 => ?_)⟩
    have H2 := Hp.cons_nilRow (Hp.cons_nilRow (Hp.cons_nilRow H1 30 8) 57 2) 3 1
    have H3 : Hp w _ (box (v.heap.size + 1) 28 [.slice none 0 0, .slice none 0 0, .slice none 0 0] :: row 30 8 (.slice none 0 0) 0 [] :: row 57 2 (.slice none 0 0) 0 [] :: row 3 1 (.slice none 0 0) 0 [] :: box v.heap.size 28 [.slice none 0 0, .slice none 0 0, .slice none 0 0] :: L) := Hp.sel H2 (by (try simp only [List.cons_append, List.nil_append, List.set_cons_zero, List.set_cons_succ]); (with_reducible repeat (first | exact Sel.nil | apply Sel.cons | exact Del.here | apply Del.there)); (try (refine Sel.tlC ?_; (with_reducible repeat (first | exact TlC.here | apply TlC.there)))))
    exact H3
  case round =>
    clear HH
    obtain ⟨k, hk, rfl, A0, c0, cs, A1, c1, ks, A2, c2, ds, HPK, HP⟩ := hrel
    have H := HP.out
    have F := H.facts; simp only [Facts, NeF, box, row, reg, cellsF, rByte, rCert, rCertKey, rInt, ne_eq, true_and, and_true, Nat.reduceAdd, Nat.zero_add] at F
    have HPD := Lib.hid (pilD_ok HPK.out)
    have HFI := Lib.hid (pilD_fits HPD.out)
    have h60 : cs.length ≤ 60 := HPD.out.1
    have h61 : ks.length ≤ 60 := by have := HPD.out.2.1; omega
    have h62 : ds.length ≤ 61 := HPD.out.2.2.1
    by_cases hlt : k < m
    · have hk1 : (k : Int) < (m : Int) := by omega
      have HK1 : Hid (k + 1 ≤ m ∧ m - (k + 1) < m - k) := ⟨by omega, by omega⟩
      clear hlt
      go_upto_region 5 with fail
      go_region_law (first | (go_simp; go_at_call 18; refine (l12DrawCert_hp b A n c bs w _ _ A0 c0 cs A1 ks.length c1 A2 ds.length c2 (by with_reducible repeat (first | exact H | apply Hp.alloc | apply Hp.set | apply Hp.drew | apply Hp.drewN | apply Hp.bytesW | exact Upd.here | exact Upd.hereR | apply Upd.there | apply Sz.alloc | apply Sz.set | apply Sz.drew | apply Sz.drewN | apply Sz.bytesW | assumption | exact Sz.base _)) (by with_reducible repeat (first | exact hm | exact List.mem_cons_self | apply List.mem_cons_of_mem)) hr hn (by with_reducible repeat (first | exact List.mem_cons_self | apply List.mem_cons_of_mem)) HPD.out.2.2.2 HPD.out.1).mono ?_; rintro e wz1 ⟨x, rfl, hxo, H1⟩; replace H := H1; clear H1; (try simp only [List.set_cons_zero, List.set_cons_succ, List.cons_append, List.nil_append] at H); (try clear F); have F := H.facts; simp only [Facts, NeF, box, row, reg, cellsF, rByte, rCert, rCertKey, rInt, ne_eq, true_and, and_true, Nat.reduceAdd, Nat.zero_add] at F; have hxm : x.owner.size ≤ maxLen := (by unfold maxLen; omega)) | (go_simp; go_at_call 78; refine (l04DrawGood_hp b A n c bs w _ _ (by with_reducible repeat (first | exact H | apply Hp.alloc | apply Hp.set | apply Hp.drew | apply Hp.drewN | apply Hp.bytesW | exact Upd.here | exact Upd.hereR | apply Upd.there | apply Sz.alloc | apply Sz.set | apply Sz.drew | apply Sz.drewN | apply Sz.bytesW | assumption | exact Sz.base _)) (by with_reducible repeat (first | exact hm | exact List.mem_cons_self | apply List.mem_cons_of_mem)) hr hn).mono ?_; rintro e wz2 ⟨ky, rfl, hky, H1⟩; replace H := H1; clear H1; (try simp only [List.set_cons_zero, List.set_cons_succ, List.cons_append, List.nil_append] at H); (try clear F); have F := H.facts; simp only [Facts, NeF, box, row, reg, cellsF, rByte, rCert, rCertKey, rInt, ne_eq, true_and, and_true, Nat.reduceAdd, Nat.zero_add] at F) | (go_simp; go_at_call 7; refine call_atC (w0 := w) (by with_reducible repeat (first | exact H | apply Hp.alloc | apply Hp.set | apply Hp.drew | apply Hp.drewN | apply Hp.bytesW | exact Upd.here | exact Upd.hereR | apply Upd.there | apply Sz.alloc | apply Sz.set | apply Sz.drew | apply Sz.drewN | apply Sz.bytesW | assumption | exact Sz.base _)) fun H7 => ?_; (try simp only [List.set_cons_zero, List.set_cons_succ, List.cons_append, List.nil_append] at H7); refine (specIssue_hp A0 cs.length c0 cs A1 ks.length c1 ks A2 ds.length c2 ds x ky (issueU cs ks ds x ky) _ rfl (Hp.rdM H7 (show rCert A0 c0 cs ∈ _ from (by with_reducible repeat (first | exact List.mem_cons_self | apply List.mem_cons_of_mem)))) rfl (by omega) HFI.out (Hp.rdM H7 (show rCertKey A1 c1 ks ∈ _ from (by with_reducible repeat (first | exact List.mem_cons_self | apply List.mem_cons_of_mem)))) rfl (by omega) (Hp.rdM H7 (show rInt A2 c2 ds ∈ _ from (by with_reducible repeat (first | exact List.mem_cons_self | apply List.mem_cons_of_mem)))) rfl (by omega) hxm).mono ?_; rintro e wz3 ⟨B0, d0, B1, d1, B2, d2, rfl, h3⟩; clear H; (try clear F); have H := Hp.call H7 h3; clear h3 H7; (try simp only [List.set_cons_zero, List.set_cons_succ, List.cons_append, List.nil_append] at H); have F := H.facts; simp only [Facts, NeF, box, row, reg, cellsF, rByte, rCert, rCertKey, rInt, ne_eq, true_and, and_true, Nat.reduceAdd, Nat.zero_add] at F; have HN := Lib.hid (issue_pile x ky HPK.out); generalize (issueU cs ks ds x ky).cs = cs2 at *; generalize (issueU cs ks ds x ky).ks = ks2 at *; generalize (issueU cs ks ds x ky).n = rn2 at *))
      all_goals
        go_wp2_with fail
        go_roundw
        case rel => exact ⟨k + 1, HK1.out.1, by go_num, B0, d0, cs2, B1, d1, ks2, B2, d2, ds, HN, Lib.hid (Hp.sel (by with_reducible repeat (first | exact H | apply Hp.alloc | apply Hp.set | apply Hp.drew | apply Hp.drewN | apply Hp.bytesW | exact Upd.here | exact Upd.hereR | apply Upd.there | apply Sz.alloc | apply Sz.set | apply Sz.drew | apply Sz.drewN | apply Sz.bytesW | assumption | exact Sz.base _)) (by (try simp only [List.cons_append, List.nil_append, List.set_cons_zero, List.set_cons_succ]); (with_reducible repeat (first | exact Sel.nil | apply Sel.cons | exact Del.here | apply Del.there)); (try (refine Sel.tlC ?_; (with_reducible repeat (first | exact TlC.here | apply TlC.there))))))⟩
        case measure => have := HK1.out.2; simp [intOf]; omega
    · have hk1 : ¬ (k : Int) < (m : Int) := by omega
      clear hlt
      go_wp2_with fail
      have HH := Lib.hid H; clear H HP F
      have HCS : Hid (PilD cs ks []) := ⟨HPD.out.1, HPD.out.2.1, Nat.zero_le _, HPD.out.2.2.2⟩
      go_loopw [9, 10, 11] (fun i s10 s11 wr => ∃ k : Nat, k ≤ cs.length ∧ i = .int .i64 k ∧ ∃ (A0 : Option Addr) (c0 : Nat) (A1 : Option Addr) (c1 : Nat) (A2 : Option Addr) (c2 : Nat) (ds : List Int), Hid (pileOk cs ks ds = true) ∧ Hid (Hp w wr (box (v.heap.size + 1) 28 [.slice A0 cs.length c0, .slice A1 ks.length c1, .slice A2 ds.length c2] :: rCert A0 c0 cs :: rCertKey A1 c1 ks :: rInt A2 c2 ds :: box v.heap.size 28 [.slice none 0 0, .slice none 0 0, .slice none 0 0] :: L))) (fun i _ _ _ => cs.length - (intOf i).toNat)
      case atStart =>
        have H := HH.out
        exact ⟨0, Nat.zero_le _, rfl, A0, c0, A1, c1, A2, c2, ds, HPK, Lib.hid (Hp.sel (by with_reducible repeat (first | exact H | apply Hp.alloc | apply Hp.set | apply Hp.drew | apply Hp.drewN | apply Hp.bytesW | exact Upd.here | exact Upd.hereR | apply Upd.there | apply Sz.alloc | apply Sz.set | apply Sz.drew | apply Sz.drewN | apply Sz.bytesW | assumption | exact Sz.base _)) (by (try simp only [List.cons_append, List.nil_append, List.set_cons_zero, List.set_cons_succ]); (with_reducible repeat (first | exact Sel.nil | apply Sel.cons | exact Del.here | apply Del.there)); (try (refine Sel.tlC ?_; (with_reducible repeat (first | exact TlC.here | apply TlC.there))))))⟩
      case round =>
        clear HH HPK HPD h62
        obtain ⟨k, hk, rfl, A0, c0, A1, c1, A2, c2, ds, HPK, HP⟩ := hrel
        have H := HP.out
        have F := H.facts; simp only [Facts, NeF, box, row, reg, cellsF, rByte, rCert, rCertKey, rInt, ne_eq, true_and, and_true, Nat.reduceAdd, Nat.zero_add] at F
        have HPD := Lib.hid (pilD_ok HPK.out)
        have h62 : ds.length ≤ 60 := (pile_iff HPK.out).2.2.1
        by_cases hlt : k < cs.length
        · have hk1 : (k : Int) < (cs.length : Int) := by omega
          have hk0 : (0 : Int) ≤ (k : Int) := by omega
          have HK1 : Hid (k + 1 ≤ cs.length ∧ cs.length - (k + 1) < cs.length - k) := ⟨by omega, by omega⟩
          obtain ⟨g0, rfl⟩ := rowGc (H.rowM (show rCert A0 c0 cs ∈ _ from (by with_reducible repeat (first | exact List.mem_cons_self | apply List.mem_cons_of_mem)))) (by omega)
          have HCK : Hid (∀ (W : World) (M : List Ent), Hp w W M → rCert (some ⟨g0, 0, none⟩) c0 cs ∈ M → W.cell? ⟨g0, k * 8, none⟩ = some (.int .i64 (cs[k]'hlt).ser)) := fun W M h hm9 => by
            have := (Rd.certAt (w := W) (A := some ⟨g0, 0, none⟩) (n := cs.length) (c := c0) (us := cs) (k := k) (h.rdM (show row 30 8 (.slice (some ⟨g0, 0, none⟩) cs.length c0) cs.length (cs.flatMap encCert) ∈ M from hm9)) rfl hlt rfl W (Below.refl _ _)).1
            simpa using this
          obtain ⟨ser, hser⟩ : ∃ x, (cs[k]'hlt).ser = x := ⟨_, rfl⟩
          rw [hser] at HCK
          clear hser hlt
          go_wp2_with fail
          refine (l01Once_hp b A n c bs w _ _ _ (by with_reducible repeat (first | exact H | apply Hp.alloc | apply Hp.set | apply Hp.drew | apply Hp.drewN | apply Hp.bytesW | exact Upd.here | exact Upd.hereR | apply Upd.there | apply Sz.alloc | apply Sz.set | apply Sz.drew | apply Sz.drewN | apply Sz.bytesW | assumption | exact Sz.base _)) (by with_reducible repeat (first | exact hm | exact List.mem_cons_self | apply List.mem_cons_of_mem)) hr hn (by omega) (by omega)).mono ?_
          rintro e w3 ⟨x3, rfl, H1⟩
          replace H := H1; clear H1; (try simp only [List.set_cons_zero, List.set_cons_succ, List.cons_append, List.nil_append] at H); (try clear F); have F := H.facts; simp only [Facts, NeF, box, row, reg, cellsF, rByte, rCert, rCertKey, rInt, ne_eq, true_and, and_true, Nat.reduceAdd, Nat.zero_add] at F
          cases x3 with
          | false =>
            go_wp2_with fail
            go_roundw
            case rel => exact ⟨k + 1, HK1.out.1, by go_num, some ⟨g0, 0, none⟩, c0, A1, c1, A2, c2, ds, HPK, Lib.hid (Hp.sel (by with_reducible repeat (first | exact H | apply Hp.alloc | apply Hp.set | apply Hp.drew | apply Hp.drewN | apply Hp.bytesW | exact Upd.here | exact Upd.hereR | apply Upd.there | apply Sz.alloc | apply Sz.set | apply Sz.drew | apply Sz.drewN | apply Sz.bytesW | assumption | exact Sz.base _)) (by (try simp only [List.cons_append, List.nil_append, List.set_cons_zero, List.set_cons_succ]); (with_reducible repeat (first | exact Sel.nil | apply Sel.cons | exact Del.here | apply Del.there)); (try (refine Sel.tlC ?_; (with_reducible repeat (first | exact TlC.here | apply TlC.there))))))⟩
            case measure => have := HK1.out.2; simp [intOf]; omega
          | true =>
            obtain ⟨rd, rb, hrd⟩ : ∃ rd rb, killU cs ks ds ser = (rd, rb) := ⟨_, _, rfl⟩
            have HRD := Lib.hid hrd
            clear hrd
            have c9 := HCK.out _ _ H (by with_reducible repeat (first | exact List.mem_cons_self | apply List.mem_cons_of_mem))
            have hgl := (H.rowM (show rCert (some ⟨g0, 0, none⟩) c0 cs ∈ _ from (by with_reducible repeat (first | exact List.mem_cons_self | apply List.mem_cons_of_mem)))).lt g0 rfl
            have hgz : ¬ g0 = w3.heap.size ∧ ¬ w3.heap.size = g0 := by omega
            go_upto_region 11 with fail
            go_region_law (first | (go_simp; go_at_call 79; refine call_atC (w0 := w) (by with_reducible repeat (first | exact H | apply Hp.alloc | apply Hp.set | apply Hp.drew | apply Hp.drewN | apply Hp.bytesW | exact Upd.here | exact Upd.hereR | apply Upd.there | apply Sz.alloc | apply Sz.set | apply Sz.drew | apply Sz.drewN | apply Sz.bytesW | assumption | exact Sz.base _)) fun H7 => ?_; (try simp only [List.set_cons_zero, List.set_cons_succ, List.cons_append, List.nil_append] at H7); refine (specKill_hp (some ⟨g0, 0, none⟩) cs.length c0 cs A1 ks.length c1 ks A2 ds.length c2 ds ser rd rb _ HRD.out (Hp.rdM H7 (show rCert (some ⟨g0, 0, none⟩) c0 cs ∈ _ from (by with_reducible repeat (first | exact List.mem_cons_self | apply List.mem_cons_of_mem)))) rfl (by omega) HFI.out (Hp.rdM H7 (show rCertKey A1 c1 ks ∈ _ from (by with_reducible repeat (first | exact List.mem_cons_self | apply List.mem_cons_of_mem)))) rfl (by omega) (Hp.rdM H7 (show rInt A2 c2 ds ∈ _ from (by with_reducible repeat (first | exact List.mem_cons_self | apply List.mem_cons_of_mem)))) rfl (by omega)).mono ?_; rintro e wz3 ⟨B0, d0, B1, d1, B2, d2, rfl, h3⟩; clear H; (try clear F); have H := Hp.call H7 h3; clear h3 H7; (try simp only [List.set_cons_zero, List.set_cons_succ, List.cons_append, List.nil_append] at H); have F := H.facts; simp only [Facts, NeF, box, row, reg, cellsF, rByte, rCert, rCertKey, rInt, ne_eq, true_and, and_true, Nat.reduceAdd, Nat.zero_add] at F; have HN := Lib.hid (kill_pile HPK.out HRD.out)))
            all_goals
              go_wp2_with fail
              go_roundw
              case rel => exact ⟨k + 1, HK1.out.1, by go_num, B0, d0, B1, d1, B2, d2, rd, HN, Lib.hid (Hp.sel (by with_reducible repeat (first | exact H | apply Hp.alloc | apply Hp.set | apply Hp.drew | apply Hp.drewN | apply Hp.bytesW | exact Upd.here | exact Upd.hereR | apply Upd.there | apply Sz.alloc | apply Sz.set | apply Sz.drew | apply Sz.drewN | apply Sz.bytesW | assumption | exact Sz.base _)) (by (try simp only [List.cons_append, List.nil_append, List.set_cons_zero, List.set_cons_succ]); (with_reducible repeat (first | exact Sel.nil | apply Sel.cons | exact Del.here | apply Del.there)); (try (refine Sel.tlC ?_; (with_reducible repeat (first | exact TlC.here | apply TlC.there))))))⟩
              case measure => have := HK1.out.2; simp [intOf]; omega
        · have hk1 : ¬ (k : Int) < (cs.length : Int) := by omega
          clear hlt hk
          clear HCS HP
          go_upto_region 13 with fail
          go_cut [58] (fun s58 wc => ∃ bb : Bool, s58 = .bool bb ∧ (bb = true → 0 < cs.length) ∧ Hp w wc (box (v.heap.size + 1) 28 [.slice A0 cs.length c0, .slice A1 ks.length c1, .slice A2 ds.length c2] :: rCert A0 c0 cs :: rCertKey A1 c1 ks :: rInt A2 c2 ds :: box v.heap.size 28 [.slice none 0 0, .slice none 0 0, .slice none 0 0] :: L))
          case first =>
            clear_value *
            as_aux_lemma =>
              go_wp2_with fail
              refine (l01Once_hp b A n c bs w _ _ _ (by with_reducible repeat (first | exact H | apply Hp.alloc | apply Hp.set | apply Hp.drew | apply Hp.drewN | apply Hp.bytesW | exact Upd.here | exact Upd.hereR | apply Upd.there | apply Sz.alloc | apply Sz.set | apply Sz.drew | apply Sz.drewN | apply Sz.bytesW | assumption | exact Sz.base _)) (by with_reducible repeat (first | exact hm | exact List.mem_cons_self | apply List.mem_cons_of_mem)) hr hn (by omega) (by omega)).mono ?_
              rintro e w4 ⟨x4, rfl, H1⟩
              replace H := H1; clear H1; (try simp only [List.set_cons_zero, List.set_cons_succ, List.cons_append, List.nil_append] at H); (try clear F); have F := H.facts; simp only [Facts, NeF, box, row, reg, cellsF, rByte, rCert, rCertKey, rInt, ne_eq, true_and, and_true, Nat.reduceAdd, Nat.zero_add] at F
              cases x4 with
              | false =>
                go_wp2_with fail
                go_meet
                exact ⟨false, rfl, fun h => (by cases h), (Hp.sel (by with_reducible repeat (first | exact H | apply Hp.alloc | apply Hp.set | apply Hp.drew | apply Hp.drewN | apply Hp.bytesW | exact Upd.here | exact Upd.hereR | apply Upd.there | apply Sz.alloc | apply Sz.set | apply Sz.drew | apply Sz.drewN | apply Sz.bytesW | assumption | exact Sz.base _)) (by (try simp only [List.cons_append, List.nil_append, List.set_cons_zero, List.set_cons_succ]); (with_reducible repeat (first | exact Sel.nil | apply Sel.cons | exact Del.here | apply Del.there)); (try (refine Sel.tlC ?_; (with_reducible repeat (first | exact TlC.here | apply TlC.there))))))⟩
              | true =>
                by_cases h0 : 0 < cs.length
                · have h0d : decide ((0 : Int) < (cs.length : Int)) = true := decide_eq_true (by omega)
                  go_wp2_with fail
                  go_meet
                  exact ⟨true, rfl, fun _ => h0, (Hp.sel (by with_reducible repeat (first | exact H | apply Hp.alloc | apply Hp.set | apply Hp.drew | apply Hp.drewN | apply Hp.bytesW | exact Upd.here | exact Upd.hereR | apply Upd.there | apply Sz.alloc | apply Sz.set | apply Sz.drew | apply Sz.drewN | apply Sz.bytesW | assumption | exact Sz.base _)) (by (try simp only [List.cons_append, List.nil_append, List.set_cons_zero, List.set_cons_succ]); (with_reducible repeat (first | exact Sel.nil | apply Sel.cons | exact Del.here | apply Del.there)); (try (refine Sel.tlC ?_; (with_reducible repeat (first | exact TlC.here | apply TlC.there))))))⟩
                · have h0d : decide ((0 : Int) < (cs.length : Int)) = false := decide_eq_false (by omega)
                  go_wp2_with fail
                  go_meet
                  exact ⟨false, rfl, fun h => (by cases h), (Hp.sel (by with_reducible repeat (first | exact H | apply Hp.alloc | apply Hp.set | apply Hp.drew | apply Hp.drewN | apply Hp.bytesW | exact Upd.here | exact Upd.hereR | apply Upd.there | apply Sz.alloc | apply Sz.set | apply Sz.drew | apply Sz.drewN | apply Sz.bytesW | assumption | exact Sz.base _)) (by (try simp only [List.cons_append, List.nil_append, List.set_cons_zero, List.set_cons_succ]); (with_reducible repeat (first | exact Sel.nil | apply Sel.cons | exact Del.here | apply Del.there)); (try (refine Sel.tlC ?_; (with_reducible repeat (first | exact TlC.here | apply TlC.there))))))⟩
          case rest =>
          clear H F
          obtain ⟨bb, rfl, hbb, H⟩ := hcut
          have F := H.facts; simp only [Facts, NeF, box, row, reg, cellsF, rByte, rCert, rCertKey, rInt, ne_eq, true_and, and_true, Nat.reduceAdd, Nat.zero_add] at F
          go_upto_if 58 with fail
          go_cut [] (fun wc => ∃ (A0 : Option Addr) (c0 : Nat) (cs : List Cert) (A1 : Option Addr) (c1 : Nat) (ks : List CertKey) (A2 : Option Addr) (c2 : Nat) (ds : List Int), Hid (PilD cs ks ds) ∧ Hp w wc (box (v.heap.size + 1) 28 [.slice A0 cs.length c0, .slice A1 ks.length c1, .slice A2 ds.length c2] :: rCert A0 c0 cs :: rCertKey A1 c1 ks :: rInt A2 c2 ds :: box v.heap.size 28 [.slice none 0 0, .slice none 0 0, .slice none 0 0] :: L))
          case first =>
            cases bb with
            | false =>
              go_wp2_with fail
              go_meet
              exact ⟨A0, c0, cs, A1, c1, ks, A2, c2, ds, HPD, (Hp.sel (by with_reducible repeat (first | exact H | apply Hp.alloc | apply Hp.set | apply Hp.drew | apply Hp.drewN | apply Hp.bytesW | exact Upd.here | exact Upd.hereR | apply Upd.there | apply Sz.alloc | apply Sz.set | apply Sz.drew | apply Sz.drewN | apply Sz.bytesW | assumption | exact Sz.base _)) (by (try simp only [List.cons_append, List.nil_append, List.set_cons_zero, List.set_cons_succ]); (with_reducible repeat (first | exact Sel.nil | apply Sel.cons | exact Del.here | apply Del.there)); (try (refine Sel.tlC ?_; (with_reducible repeat (first | exact TlC.here | apply TlC.there))))))⟩
            | true =>
              have h0 := hbb rfl
              obtain ⟨g0, rfl⟩ := rowGc (H.rowM (show rCert A0 c0 cs ∈ _ from (by with_reducible repeat (first | exact List.mem_cons_self | apply List.mem_cons_of_mem)))) h0
              go_wp2_with fail
              refine (l01Below_hp b A n c bs w _ _ _ (by with_reducible repeat (first | exact H | apply Hp.alloc | apply Hp.set | apply Hp.drew | apply Hp.drewN | apply Hp.bytesW | exact Upd.here | exact Upd.hereR | apply Upd.there | apply Sz.alloc | apply Sz.set | apply Sz.drew | apply Sz.drewN | apply Sz.bytesW | assumption | exact Sz.base _)) (by with_reducible repeat (first | exact hm | exact List.mem_cons_self | apply List.mem_cons_of_mem)) hr hn (by omega) (by omega)).mono ?_
              rintro e w5 ⟨x5, rfl, hx5, H1⟩
              replace H := H1; clear H1; (try simp only [List.set_cons_zero, List.set_cons_succ, List.cons_append, List.nil_append] at H); (try clear F); have F := H.facts; simp only [Facts, NeF, box, row, reg, cellsF, rByte, rCert, rCertKey, rInt, ne_eq, true_and, and_true, Nat.reduceAdd, Nat.zero_add] at F
              obtain ⟨k2, rfl⟩ := Int.eq_ofNat_of_zero_le hx5.1
              have hk2 : k2 < cs.length := by omega
              have hk2i : (k2 : Int) < (cs.length : Int) := by omega
              have hk20 : (0 : Int) ≤ (k2 : Int) := by omega
              have HC8 : Hid (∀ (W : World) (M : List Ent), Hp w W M → rCert (some ⟨g0, 0, none⟩) c0 cs ∈ M → _) := fun W M h hm9 => Rd.certAt (w := W) (A := some ⟨g0, 0, none⟩) (n := cs.length) (c := c0) (us := cs) (k := k2) (h.rdM (show row 30 8 (.slice (some ⟨g0, 0, none⟩) cs.length c0) cs.length (cs.flatMap encCert) ∈ M from hm9)) rfl hk2 rfl W (Below.refl _ _)
              clear hx5 hbb
              go_wp2_with fail
              refine (l01Below_hp b A n c bs w _ _ _ (by with_reducible repeat (first | exact H | apply Hp.alloc | apply Hp.set | apply Hp.drew | apply Hp.drewN | apply Hp.bytesW | exact Upd.here | exact Upd.hereR | apply Upd.there | apply Sz.alloc | apply Sz.set | apply Sz.drew | apply Sz.drewN | apply Sz.bytesW | assumption | exact Sz.base _)) (by with_reducible repeat (first | exact hm | exact List.mem_cons_self | apply List.mem_cons_of_mem)) hr hn (by omega) (by omega)).mono ?_
              rintro e w6 ⟨x6, rfl, hx6, H1⟩
              replace H := H1; clear H1; (try simp only [List.set_cons_zero, List.set_cons_succ, List.cons_append, List.nil_append] at H); (try clear F); have F := H.facts; simp only [Facts, NeF, box, row, reg, cellsF, rByte, rCert, rCertKey, rInt, ne_eq, true_and, and_true, Nat.reduceAdd, Nat.zero_add] at F
              have hq0 := HC8.out _ _ H (by with_reducible repeat (first | exact List.mem_cons_self | apply List.mem_cons_of_mem))
              obtain ⟨q0, q1, q2, q3, q4, q5, q6, q7⟩ := hq0
              simp only [Nat.zero_add] at q0 q1 q2 q3 q4 q5 q6 q7
              have hfz := fun j => (H.rowM (show rCert (some ⟨g0, 0, none⟩) c0 cs ∈ _ from (by with_reducible repeat (first | exact List.mem_cons_self | apply List.mem_cons_of_mem)))).frozenAt (g := g0) j
              have hy := HPD.out.2.2.2 _ (List.getElem_mem hk2)
              rcases (show x6 = 0 ∨ x6 = 1 ∨ x6 = 2 ∨ x6 = 3 ∨ x6 = 4 ∨ x6 = 5 by omega) with rfl | rfl | rfl | rfl | rfl | rfl
              · have f7 := hfz (k2 * 8 + 7)
                obtain ⟨mk, hmk⟩ : ∃ x, (cs[k2]).mark = x := ⟨_, rfl⟩
                rw [hmk] at q7
                obtain ⟨mk2, hmk2⟩ : ∃ x, IntKind.i64.wrap (mk + 1) = x := ⟨_, rfl⟩
                clear hmk q0 q1 q2 q3 q4 q5 q6
                clear hx6 hfz
                go_upto_region 17 with fail
                go_region_law (first | fail)
                all_goals
                  go_wp2_with fail
                  go_meet
                  refine ⟨some ⟨g0, 0, none⟩, c0, cs.set k2 { cs[k2] with mark := mk2 }, A1, c1, ks, A2, c2, ds, pil_set HPD.out hk2 ⟨hy.1, hy.2.1, hy.2.2.1, hy.2.2.2⟩, Hp.intoC (by with_reducible repeat (first | exact H | apply Hp.alloc | apply Hp.set | apply Hp.drew | apply Hp.drewN | apply Hp.bytesW | exact Upd.here | exact Upd.hereR | apply Upd.there | apply Sz.alloc | apply Sz.set | apply Sz.drew | apply Sz.drewN | apply Sz.bytesW | assumption | exact Sz.base _)) fun H9 => ?_⟩
                  rw [flat_set encCert_len cs k2 7 _ { cs[k2] with mark := mk2 } hk2 (by omega) rfl] at H9
                  unfold rCert
                  rw [List.length_set]
                  exact Hp.sel H9 (by (try simp only [List.cons_append, List.nil_append, List.set_cons_zero, List.set_cons_succ]); (with_reducible repeat (first | exact Sel.nil | apply Sel.cons | exact Del.here | apply Del.there)); (try (refine Sel.tlC ?_; (with_reducible repeat (first | exact TlC.here | apply TlC.there)))))
              · have f5 := hfz (k2 * 8 + 5)
                have f6 := hfz (k2 * 8 + 6)
                clear hx6 hfz
                go_wp2_with fail
                go_meet
                refine ⟨some ⟨g0, 0, none⟩, c0, cs.set k2 { cs[k2] with ca := false, depth := 0 }, A1, c1, ks, A2, c2, ds, pil_set HPD.out hk2 ⟨hy.1, hy.2.1, hy.2.2.1, by show (0 : Int) ≤ 0 ∧ (0 : Int) ≤ 6; decide⟩, Hp.intoC (by with_reducible repeat (first | exact H | apply Hp.alloc | apply Hp.set | apply Hp.drew | apply Hp.drewN | apply Hp.bytesW | exact Upd.here | exact Upd.hereR | apply Upd.there | apply Sz.alloc | apply Sz.set | apply Sz.drew | apply Sz.drewN | apply Sz.bytesW | assumption | exact Sz.base _)) fun H9 => ?_⟩
                rw [flat_set encCert_len cs k2 5 _ { cs[k2] with ca := false } hk2 (by omega) rfl] at H9
                rw [flat_set encCert_len (cs.set k2 { cs[k2] with ca := false }) k2 6 _ { cs[k2] with ca := false, depth := 0 } (by rw [List.length_set]; exact hk2) (by omega) (by rw [List.getElem_set_self]; rfl), List.set_set] at H9
                unfold rCert
                rw [List.length_set]
                exact Hp.sel H9 (by (try simp only [List.cons_append, List.nil_append, List.set_cons_zero, List.set_cons_succ]); (with_reducible repeat (first | exact Sel.nil | apply Sel.cons | exact Del.here | apply Del.there)); (try (refine Sel.tlC ?_; (with_reducible repeat (first | exact TlC.here | apply TlC.there)))))
              · clear hx6 hfz q0 q1 q2 q3 q4 q5 q6 q7
                go_upto_region 22 with fail
                go_region_law (first | (go_simp; go_at_call 41; refine (l01Below_hp b A n c bs w _ _ _ (by with_reducible repeat (first | exact H | apply Hp.alloc | apply Hp.set | apply Hp.drew | apply Hp.drewN | apply Hp.bytesW | exact Upd.here | exact Upd.hereR | apply Upd.there | apply Sz.alloc | apply Sz.set | apply Sz.drew | apply Sz.drewN | apply Sz.bytesW | assumption | exact Sz.base _)) (by with_reducible repeat (first | exact hm | exact List.mem_cons_self | apply List.mem_cons_of_mem)) hr hn (by omega) (by omega)).mono ?_; rintro e wz2 ⟨z2, rfl, hz2, H2⟩; replace H := H2; clear H2; (try simp only [List.set_cons_zero, List.set_cons_succ, List.cons_append, List.nil_append] at H); (try clear F); have F := H.facts; simp only [Facts, NeF, box, row, reg, cellsF, rByte, rCert, rCertKey, rInt, ne_eq, true_and, and_true, Nat.reduceAdd, Nat.zero_add] at F; have hq2 := HC8.out _ _ H (by with_reducible repeat (first | exact List.mem_cons_self | apply List.mem_cons_of_mem)); obtain ⟨r0, r1, r2, r3, r4, r5, r6, r7⟩ := hq2; simp only [Nat.zero_add] at r0 r1 r2 r3 r4 r5 r6 r7; have f2 := (H.rowM (show rCert (some ⟨g0, 0, none⟩) c0 cs ∈ _ from (by with_reducible repeat (first | exact List.mem_cons_self | apply List.mem_cons_of_mem)))).frozenAt (g := g0) (k2 * 8 + 2); have hwz : IntKind.i64.wrap (1 + z2) = 1 + z2 := (by rw [IntKind.wrap_i64]; omega)))
                all_goals
                  go_wp2_with fail
                  go_meet
                  refine ⟨some ⟨g0, 0, none⟩, c0, cs.set k2 { cs[k2] with iss := 1 + z2 }, A1, c1, ks, A2, c2, ds, pil_set HPD.out hk2 ⟨hy.1, hy.2.1, hy.2.2.1, hy.2.2.2⟩, Hp.intoC (by with_reducible repeat (first | exact H | apply Hp.alloc | apply Hp.set | apply Hp.drew | apply Hp.drewN | apply Hp.bytesW | exact Upd.here | exact Upd.hereR | apply Upd.there | apply Sz.alloc | apply Sz.set | apply Sz.drew | apply Sz.drewN | apply Sz.bytesW | assumption | exact Sz.base _)) fun H9 => ?_⟩
                  rw [flat_set encCert_len cs k2 2 _ { cs[k2] with iss := 1 + z2 } hk2 (by omega) rfl] at H9
                  unfold rCert
                  rw [List.length_set]
                  exact Hp.sel H9 (by (try simp only [List.cons_append, List.nil_append, List.set_cons_zero, List.set_cons_succ]); (with_reducible repeat (first | exact Sel.nil | apply Sel.cons | exact Del.here | apply Del.there)); (try (refine Sel.tlC ?_; (with_reducible repeat (first | exact TlC.here | apply TlC.there)))))
              · clear hx6 hfz q0 q1 q2 q3 q4 q5 q6 q7
                have hkk : k2 < ks.length := by have := HPD.out.2.1; omega
                have hkki : (k2 : Int) < (ks.length : Int) := by omega
                obtain ⟨g1, rfl⟩ := rowGc (H.rowM (show rCertKey A1 c1 ks ∈ _ from (by with_reducible repeat (first | exact List.mem_cons_self | apply List.mem_cons_of_mem)))) (by omega)
                have HK8 : Hid (∀ (W : World) (M : List Ent), Hp w W M → rCertKey (some ⟨g1, 0, none⟩) c1 ks ∈ M → _) := fun W M h hm9 => Rd.keyAt (w := W) (A := some ⟨g1, 0, none⟩) (n := ks.length) (c := c1) (us := ks) (k := k2) (h.rdM (show row 57 2 (.slice (some ⟨g1, 0, none⟩) ks.length c1) ks.length (ks.flatMap encCertKey) ∈ M from hm9)) rfl hkk rfl W (Below.refl _ _)
                go_upto_region 24 with fail
                go_region_law (first | (go_simp; go_at_call 19; refine (l04DrawKey_hp b A n c bs w _ _ (by with_reducible repeat (first | exact H | apply Hp.alloc | apply Hp.set | apply Hp.drew | apply Hp.drewN | apply Hp.bytesW | exact Upd.here | exact Upd.hereR | apply Upd.there | apply Sz.alloc | apply Sz.set | apply Sz.drew | apply Sz.drewN | apply Sz.bytesW | assumption | exact Sz.base _)) (by with_reducible repeat (first | exact hm | exact List.mem_cons_self | apply List.mem_cons_of_mem)) hr hn).mono ?_; rintro e wz2 ⟨z2, rfl, H2⟩; replace H := H2; clear H2; (try simp only [List.set_cons_zero, List.set_cons_succ, List.cons_append, List.nil_append] at H); (try clear F); have F := H.facts; simp only [Facts, NeF, box, row, reg, cellsF, rByte, rCert, rCertKey, rInt, ne_eq, true_and, and_true, Nat.reduceAdd, Nat.zero_add] at F; have hq2 := HK8.out _ _ H (by with_reducible repeat (first | exact List.mem_cons_self | apply List.mem_cons_of_mem)); obtain ⟨r0, r1⟩ := hq2; simp only [Nat.zero_add] at r0 r1; have f1 := (H.rowM (show rCertKey (some ⟨g1, 0, none⟩) c1 ks ∈ _ from (by with_reducible repeat (first | exact List.mem_cons_self | apply List.mem_cons_of_mem)))).frozenAt (g := g1) (k2 * 2 + 1)))
                all_goals
                  go_wp2_with fail
                  go_meet
                  refine ⟨some ⟨g0, 0, none⟩, c0, cs, some ⟨g1, 0, none⟩, c1, ks.set k2 { ks[k2] with key := z2 }, A2, c2, ds, ⟨HPD.out.1, by rw [List.length_set]; exact HPD.out.2.1, HPD.out.2.2⟩, Hp.intoC (by with_reducible repeat (first | exact H | apply Hp.alloc | apply Hp.set | apply Hp.drew | apply Hp.drewN | apply Hp.bytesW | exact Upd.here | exact Upd.hereR | apply Upd.there | apply Sz.alloc | apply Sz.set | apply Sz.drew | apply Sz.drewN | apply Sz.bytesW | assumption | exact Sz.base _)) fun H9 => ?_⟩
                  rw [flat_set encCertKey_len ks k2 1 _ { ks[k2] with key := z2 } hkk (by omega) rfl] at H9
                  unfold rCertKey
                  rw [List.length_set]
                  exact Hp.sel H9 (by (try simp only [List.cons_append, List.nil_append, List.set_cons_zero, List.set_cons_succ]); (with_reducible repeat (first | exact Sel.nil | apply Sel.cons | exact Del.here | apply Del.there)); (try (refine Sel.tlC ?_; (with_reducible repeat (first | exact TlC.here | apply TlC.there)))))
              · have f0 := hfz (k2 * 8)
                have hz0 := (Rd.certAt (w := w6) (A := some ⟨g0, 0, none⟩) (n := cs.length) (c := c0) (us := cs) (k := 0) (H.rdM (show row 30 8 (.slice (some ⟨g0, 0, none⟩) cs.length c0) cs.length (cs.flatMap encCert) ∈ _ from (by with_reducible repeat (first | exact List.mem_cons_self | apply List.mem_cons_of_mem)))) rfl h0 rfl w6 (Below.refl _ _)).1
                simp only [Nat.zero_add, Nat.zero_mul] at hz0
                have h0i : (0 : Int) < (cs.length : Int) := by omega
                clear hx6 hfz
                go_upto_region 26 with fail
                go_region
                go_wp2_with fail
                go_meet
                refine ⟨some ⟨g0, 0, none⟩, c0, cs.set k2 { cs[k2] with ser := (cs[0]'h0).ser }, A1, c1, ks, A2, c2, ds, pil_set HPD.out hk2 ⟨hy.1, hy.2.1, hy.2.2.1, hy.2.2.2⟩, Hp.intoC (by with_reducible repeat (first | exact H | apply Hp.alloc | apply Hp.set | apply Hp.drew | apply Hp.drewN | apply Hp.bytesW | exact Upd.here | exact Upd.hereR | apply Upd.there | apply Sz.alloc | apply Sz.set | apply Sz.drew | apply Sz.drewN | apply Sz.bytesW | assumption | exact Sz.base _)) fun H9 => ?_⟩
                rw [show k2 * 8 = k2 * 8 + 0 from rfl, flat_set encCert_len cs k2 0 _ { cs[k2] with ser := (cs[0]'h0).ser } hk2 (by omega) rfl] at H9
                unfold rCert
                rw [List.length_set]
                exact Hp.sel H9 (by (try simp only [List.cons_append, List.nil_append, List.set_cons_zero, List.set_cons_succ]); (with_reducible repeat (first | exact Sel.nil | apply Sel.cons | exact Del.here | apply Del.there)); (try (refine Sel.tlC ?_; (with_reducible repeat (first | exact TlC.here | apply TlC.there)))))
              · clear hx6 hfz q0 q1 q2 q3 q4 q5 q6 q7
                have hl : ds.length + 1 ≤ maxLen := by unfold maxLen; omega
                go_upto_region 28 with fail
                go_region_law (first | (refine step_append_lies _ (by rfl) _ _ 26 (by rfl) w.heap.size 3 i0 _ 1 _ Tryz.underlying26 hi0 hz0 hz1 hz2 (by rfl) (by decide) (.slice A2 (ds.length) c2) (ds.length) _ (by rfl) (Hp.rowM (by with_reducible repeat (first | exact H | apply Hp.alloc | apply Hp.set | apply Hp.drew | apply Hp.drewN | apply Hp.bytesW | exact Upd.here | exact Upd.hereR | apply Upd.there | apply Sz.alloc | apply Sz.set | apply Sz.drew | apply Sz.drewN | apply Sz.bytesW | assumption | exact Sz.base _)) (by with_reducible repeat (first | exact List.mem_cons_self | apply List.mem_cons_of_mem))) ⟨wz4.heap.size, 0, none⟩ 1 1 (encInt x4) (by rfl) (by rfl) (Hp.news (by with_reducible repeat (first | exact H | apply Hp.alloc | apply Hp.set | apply Hp.drew | apply Hp.drewN | apply Hp.bytesW | exact Upd.here | exact Upd.hereR | apply Upd.there | apply Sz.alloc | apply Sz.set | apply Sz.drew | apply Sz.drewN | apply Sz.bytesW | assumption | exact Sz.base _)) 0 (by rfl)) (oneInt x4) (by decide) hl (by omega) (Hp.b (by with_reducible repeat (first | exact H | apply Hp.alloc | apply Hp.set | apply Hp.drew | apply Hp.drewN | apply Hp.bytesW | exact Upd.here | exact Upd.hereR | apply Upd.there | apply Sz.alloc | apply Sz.set | apply Sz.drew | apply Sz.drewN | apply Sz.bytesW | assumption | exact Sz.base _))).size _ rfl ?_; intro g cap wa hown hgrow hat hlt1; have H5 := Hp.appM (by with_reducible repeat (first | exact H | apply Hp.alloc | apply Hp.set | apply Hp.drew | apply Hp.drewN | apply Hp.bytesW | exact Upd.here | exact Upd.hereR | apply Upd.there | apply Sz.alloc | apply Sz.set | apply Sz.drew | apply Sz.drewN | apply Sz.bytesW | assumption | exact Sz.base _)) (by with_reducible repeat (first | exact Rep.here | apply Rep.there)) hown hgrow hat rfl hlt1; (try simp only [List.set_cons_zero, List.set_cons_succ, List.cons_append, List.nil_append] at H5); have FA := H5.facts; simp only [Facts, NeF, box, row, reg, cellsF, rByte, rCert, rCertKey, rInt, ne_eq, true_and, and_true, Nat.reduceAdd, Nat.zero_add] at FA) | (go_simp; go_at_call 50; refine (l01PickInt_t b A n c bs w _ _ _ _ _ (by with_reducible repeat (first | exact H | apply Hp.alloc | apply Hp.set | apply Hp.drew | apply Hp.drewN | apply Hp.bytesW | exact Upd.here | exact Upd.hereR | apply Upd.there | apply Sz.alloc | apply Sz.set | apply Sz.drew | apply Sz.drewN | apply Sz.bytesW | assumption | exact Sz.base _)) (by with_reducible repeat (first | exact hm | exact List.mem_cons_self | apply List.mem_cons_of_mem)) (by with_reducible repeat (first | exact List.mem_cons_self | apply List.mem_cons_of_mem)) (by rfl) (by omega) (by omega) (by repeat (first | exact trivial | refine ⟨⟨_, rfl⟩, ?_⟩)) hr hn).mono ?_; rintro e wz4 ⟨x4, rfl, H4⟩; replace H := H4; clear H4; (try simp only [List.set_cons_zero, List.set_cons_succ, List.cons_append, List.nil_append] at H); (try clear F); have F := H.facts; simp only [Facts, NeF, box, row, reg, cellsF, rByte, rCert, rCertKey, rInt, ne_eq, true_and, and_true, Nat.reduceAdd, Nat.zero_add] at F))
                all_goals
                  rw [rInt_snoc] at H5
                  obtain ⟨ds2, hds2⟩ : ∃ x, ds ++ [x4] = x := ⟨_, rfl⟩
                  rw [hds2] at H5
                  have hl9 : ds.length + 1 = ds2.length := by rw [← hds2]; simp
                  rw [hl9]
                  go_wp2_with fail
                  go_meet
                  exact ⟨some ⟨g0, 0, none⟩, c0, cs, A1, c1, ks, some ⟨g, 0, none⟩, cap, ds2, ⟨HPD.out.1, HPD.out.2.1, by omega, HPD.out.2.2.2⟩, (Hp.sel (by with_reducible repeat (first | exact H5 | apply Hp.alloc | apply Hp.set | apply Hp.drew | apply Hp.drewN | apply Hp.bytesW | exact Upd.here | exact Upd.hereR | apply Upd.there | apply Sz.alloc | apply Sz.set | apply Sz.drew | apply Sz.drewN | apply Sz.bytesW | assumption | exact Sz.base _)) (by (try simp only [List.cons_append, List.nil_append, List.set_cons_zero, List.set_cons_succ]); (with_reducible repeat (first | exact Sel.nil | apply Sel.cons | exact Del.here | apply Del.there)); (try (refine Sel.tlC ?_; (with_reducible repeat (first | exact TlC.here | apply TlC.there))))))⟩
          case rest =>
          clear H F HPD HPK hbb
          obtain ⟨A0, c0, cs, A1, c1, ks, A2, c2, ds, HPD, H⟩ := hcut
          have F := H.facts; simp only [Facts, NeF, box, row, reg, cellsF, rByte, rCert, rCertKey, rInt, ne_eq, true_and, and_true, Nat.reduceAdd, Nat.zero_add] at F
          go_wp2_with fail
          refine bodyPost_ret (v := pileV A0 cs.length c0 A1 ks.length c1 A2 ds.length c2) (by simp [results, Tryz.results47, go_sem, F]) rfl ⟨A0, c0, cs, A1, c1, ks, A2, c2, ds, rfl, HPD.out, (Hp.sel (by with_reducible repeat (first | exact H | apply Hp.alloc | apply Hp.set | apply Hp.drew | apply Hp.drewN | apply Hp.bytesW | exact Upd.here | exact Upd.hereR | apply Upd.there | apply Sz.alloc | apply Sz.set | apply Sz.drew | apply Sz.drewN | apply Sz.bytesW | assumption | exact Sz.base _)) (by (try simp only [List.cons_append, List.nil_append, List.set_cons_zero, List.set_cons_succ]); (with_reducible repeat (first | exact Sel.nil | apply Sel.cons | exact Del.here | apply Del.there)); (try (refine Sel.tlC ?_; (with_reducible repeat (first | exact TlC.here | apply TlC.there))))))⟩
end Go.Proofs.YtlblkpcjknjijaaGreatDoor

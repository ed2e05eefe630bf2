/- FnChain: the walk. No condition. -/
import Derived.Test.YtlblkpcjknjijaaGreatDoorDrawE
import Derived.Test.YtlblkpcjknjijaaGreatDoorChainQ
import Derived.Test.YtlblkpcjknjijaaGreatDoorChLaw
import Derived.Test.YtlblkpcjknjijaaGreatDoorLwCheckChain
import Derived.Test.YtlblkpcjknjijaaGreatDoorPruneB
import Derived.Test.YtlblkpcjknjijaaGreatDoorKillA
import Derived.Deep.DeepCutAuto
set_option linter.unusedVariables false
set_option linter.unusedSimpArgs false
namespace Go.Proofs.YtlblkpcjknjijaaGreatDoor
open Go.RowKit
set_option linter.unusedVariables false
set_option linter.unusedSimpArgs false
theorem implPrune_at (A0 : Option Addr) (n0 c0 : Nat) (cs : List Cert) (A1 : Option Addr) (n1 c1 : Nat) (ks : List CertKey) (A2 : Option Addr) (n2 c2 : Nat) (ds : List Int) (now : Int) (rcs : List Cert) (rks : List CertKey) (rds : List Int) (rn : Int) (w : World) (hd : pruneU cs ks ds now = ⟨rcs, rks, rds, rn⟩) (hr0 : Rd w w.heap.size 8 A0 n0 c0 (cs.flatMap encCert)) (hn0 : cs.length = n0) (hb0 : n0 ≤ 1048576) (hsz : ∀ u ∈ cs, CertFits u) (hr1 : Rd w w.heap.size 2 A1 n1 c1 (ks.flatMap encCertKey)) (hn1 : ks.length = n1) (hb1 : n1 ≤ 1048576) (hr2 : Rd w w.heap.size 1 A2 n2 c2 (ds.flatMap encInt)) (hn2 : ds.length = n2) (hb2 : n2 ≤ 1048576) (hml : mlOk w) :
    Calls Tryz.prog 16 #[pileV A0 n0 c0 A1 n1 c1 A2 n2 c2, .int .i64 now] w fun e w' => ∃ B0 d0 B1 d1 B2 d2, e = .returned (.tuple #[pileV B0 rcs.length d0 B1 rks.length d1 B2 rds.length d2, .int .i64 rn]) ∧ Hp w w' [rCert B0 d0 rcs, rCertKey B1 d1 rks, rInt B2 d2 rds] := implPrune_hp A0 n0 c0 cs A1 n1 c1 ks A2 n2 c2 ds now ⟨rcs, rks, rds, rn⟩ w hd hr0 hn0 hb0 hsz hr1 hn1 hb1 hr2 hn2 hb2 hml
set_option maxHeartbeats 32000000 in
set_option maxRecDepth 10000 in
theorem lawChain (A : Option Addr) (n c : Nat) (bs : List UInt8) (w : World) (hr : Rd w w.heap.size 1 A n c (bs.flatMap encByte)) (hn : bs.length = n) (hml : mlOk w) :
    Calls Tryz.prog 4 #[.slice A n c] w fun e w' => e = .returned (.bool true) ∧ Below w.heap.size w w' := by
  have H := Hp.nil w
  have hnm : n ≤ maxLen := Nat.le_trans hr.2.1 hr.2.2.1
  by_cases hbig : 1048576 < n
  · go_enter Tryz.func4, Tryz.ntmps4
    go_wp2_with fail
    refine (bigC_any A n c _ hnm).mono ?_
    rintro e w0 ⟨rfl, rfl⟩
    rw [decide_eq_true hbig]
    go_wp2_with fail
    go_ret
    exact ⟨rfl, Hp.b (by with_reducible repeat (first | exact H | apply Hp.alloc | apply Hp.set | apply Hp.drew | apply Hp.drewN | apply Hp.bytesW | exact Upd.here | exact Upd.hereR | apply Upd.there | apply Sz.alloc | apply Sz.set | apply Sz.drew | apply Sz.drewN | apply Sz.bytesW | assumption | exact Sz.base _))⟩
  go_enter Tryz.func4, Tryz.ntmps4
  go_wp2_with fail
  refine (bigC_any A n c _ hnm).mono ?_
  rintro e w0 ⟨rfl, rfl⟩
  rw [decide_eq_false hbig]
  go_wp2_with fail
  refine (DrawCheckChain_hp A n c bs _ (hr.grow (Hp.b (by with_reducible repeat (first | exact H | apply Hp.alloc | apply Hp.set | apply Hp.drew | apply Hp.drewN | apply Hp.bytesW | exact Upd.here | exact Upd.hereR | apply Upd.there | apply Sz.alloc | apply Sz.set | apply Sz.drew | apply Sz.drewN | apply Sz.bytesW | assumption | exact Sz.base _)))) hn).mono ?_
  rintro e w1 ⟨A0, c0, cs, A1, c1, ks, A2, c2, ds, x, now, rfl, hP, h1⟩
  replace H := Hp.call (by with_reducible repeat (first | exact H | apply Hp.alloc | apply Hp.set | apply Hp.drew | apply Hp.drewN | apply Hp.bytesW | exact Upd.here | exact Upd.hereR | apply Upd.there | apply Sz.alloc | apply Sz.set | apply Sz.drew | apply Sz.drewN | apply Sz.bytesW | assumption | exact Sz.base _)) h1; (try simp only [List.set_cons_zero, List.set_cons_succ, List.cons_append, List.nil_append] at H); clear h1; (try clear F); have F := H.facts; simp only [Facts, NeF, box, row, reg, cellsF, rCert, rCertKey, rInt, ne_eq, true_and, and_true, Nat.reduceAdd, Nat.zero_add] at F
  have HP := Lib.hid hP
  clear hP
  obtain ⟨rl, rc, hrl⟩ : ∃ rl rc, chainU cs ks ds x now = (rl, rc) := ⟨_, _, rfl⟩
  have HRL := Lib.hid hrl
  clear hrl
  have h60 : cs.length ≤ 60 := HP.out.1
  have h61 : ks.length ≤ 60 := by have := HP.out.2.1; omega
  have h62 : ds.length ≤ 61 := HP.out.2.2.1
  have HFI := Lib.hid (pilD_fits HP.out)
  have hrl7 : rl.length ≤ 7 := by have := chainU_len cs ks ds x now; rw [HRL.out] at this; exact this
  have hn20 : n ≤ 1048576 := by omega
  clear hbig
  go_wp2_with fail
  refine call_atC (w0 := w) (by with_reducible repeat (first | exact H | apply Hp.alloc | apply Hp.set | apply Hp.drew | apply Hp.drewN | apply Hp.bytesW | exact Upd.here | exact Upd.hereR | apply Upd.there | apply Sz.alloc | apply Sz.set | apply Sz.drew | apply Sz.drewN | apply Sz.bytesW | assumption | exact Sz.base _)) fun H7 => ?_
  (try simp only [List.set_cons_zero, List.set_cons_succ, List.cons_append, List.nil_append] at H7)
  refine (specChain_hp A0 cs.length c0 cs A1 ks.length c1 ks A2 ds.length c2 ds x now rl rc _ HRL.out (Hp.rdM H7 (show rCert A0 c0 cs ∈ _ from (by with_reducible repeat (first | exact List.mem_cons_self | apply List.mem_cons_of_mem)))) rfl HFI.out (Hp.rdM H7 (show rCertKey A1 c1 ks ∈ _ from (by with_reducible repeat (first | exact List.mem_cons_self | apply List.mem_cons_of_mem)))) rfl (Hp.rdM H7 (show rInt A2 c2 ds ∈ _ from (by with_reducible repeat (first | exact List.mem_cons_self | apply List.mem_cons_of_mem)))) rfl).mono ?_
  rintro e w2 ⟨B2, d2, rfl, h2⟩
  clear H F
  have H := Hp.call H7 h2
  clear h2 H7
  (try simp only [List.set_cons_zero, List.set_cons_succ, List.cons_append, List.nil_append] at H)
  have F := H.facts; simp only [Facts, NeF, box, row, reg, cellsF, rCert, rCertKey, rInt, ne_eq, true_and, and_true, Nat.reduceAdd, Nat.zero_add] at F
  go_wp2_with fail
  refine call_atC (w0 := w) (by with_reducible repeat (first | exact H | apply Hp.alloc | apply Hp.set | apply Hp.drew | apply Hp.drewN | apply Hp.bytesW | exact Upd.here | exact Upd.hereR | apply Upd.there | apply Sz.alloc | apply Sz.set | apply Sz.drew | apply Sz.drewN | apply Sz.bytesW | assumption | exact Sz.base _)) fun H7 => ?_
  (try simp only [List.set_cons_zero, List.set_cons_succ, List.cons_append, List.nil_append] at H7)
  refine (implChain_hp A0 cs.length c0 cs A1 ks.length c1 ks A2 ds.length c2 ds x now rl rc _ HRL.out (Hp.rdM H7 (show rCert A0 c0 cs ∈ _ from (by with_reducible repeat (first | exact List.mem_cons_self | apply List.mem_cons_of_mem)))) rfl (by omega) HFI.out (Hp.rdM H7 (show rCertKey A1 c1 ks ∈ _ from (by with_reducible repeat (first | exact List.mem_cons_self | apply List.mem_cons_of_mem)))) rfl (Hp.rdM H7 (show rInt A2 c2 ds ∈ _ from (by with_reducible repeat (first | exact List.mem_cons_self | apply List.mem_cons_of_mem)))) rfl (by omega) (hml.on H7.b)).mono ?_
  rintro e w3 ⟨B3, d3, rfl, h3⟩
  clear H F
  have H := Hp.call H7 h3
  clear h3 H7
  (try simp only [List.set_cons_zero, List.set_cons_succ, List.cons_append, List.nil_append] at H)
  have F := H.facts; simp only [Facts, NeF, box, row, reg, cellsF, rCert, rCertKey, rInt, ne_eq, true_and, and_true, Nat.reduceAdd, Nat.zero_add] at F
  by_cases hrc : rc = 0
  · subst hrc
    obtain ⟨hL0, hL6, hLx, hLaw⟩ := chain_law HRL.out
    have HLAW := Lib.hid hLaw
    have HLX := Lib.hid hLx
    clear hLaw hLx HRL
    obtain ⟨g3, rfl⟩ := rowGc (H.rowM (show rInt B3 d3 rl ∈ _ from (by with_reducible repeat (first | exact List.mem_cons_self | apply List.mem_cons_of_mem)))) hL0
    have HRW : Hid (∀ (W : World) (M : List Ent), Hp w W M → rInt (some ⟨g3, 0, none⟩) d3 rl ∈ M → ∀ j (hj : j < rl.length), W.cell? ⟨g3, j, none⟩ = some (.int .i64 rl[j])) := fun W M h hm9 j hj => ownC_at (j := j) (v := .int .i64 rl[j]) (h.rowM (show row 3 1 (.slice (some ⟨g3, 0, none⟩) rl.length d3) rl.length (rl.flatMap encInt) ∈ M from hm9)) (by
      have h9 := flat_get encInt 1 encInt_len rl j 0 (by omega)
      rw [Nat.mul_one, Nat.add_zero, List.getElem?_eq_getElem hj] at h9
      exact h9)
    have hx0 : rl[0] = x := by
      have h9 := HLX.out
      rw [List.getElem?_eq_getElem hL0] at h9
      injection h9
    have hb0 : ((rl.length : Int) == 0) = false := beq_eq_false_iff_ne.2 (by omega)
    have hb6 : decide ((6 : Int) < (rl.length : Int)) = false := decide_eq_false (by omega)
    have hlz : (0 : Int) < (rl.length : Int) := by omega
    have HX0 := Lib.hid hx0; clear hx0
    go_wp2_with (go_at_call 12; refine (sameInts_any (some ⟨g3, 0, none⟩) B2 rl.length d3 d2 rl _ (Hp.rdM (by with_reducible repeat (first | exact H | apply Hp.alloc | apply Hp.set | apply Hp.drew | apply Hp.drewN | apply Hp.bytesW | exact Upd.here | exact Upd.hereR | apply Upd.there | apply Sz.alloc | apply Sz.set | apply Sz.drew | apply Sz.drewN | apply Sz.bytesW | assumption | exact Sz.base _)) (by with_reducible repeat (first | exact List.mem_cons_self | apply List.mem_cons_of_mem))) (Hp.rdM (by with_reducible repeat (first | exact H | apply Hp.alloc | apply Hp.set | apply Hp.drew | apply Hp.drewN | apply Hp.bytesW | exact Upd.here | exact Upd.hereR | apply Upd.there | apply Sz.alloc | apply Sz.set | apply Sz.drew | apply Sz.drewN | apply Sz.bytesW | assumption | exact Sz.base _)) (by with_reducible repeat (first | exact List.mem_cons_self | apply List.mem_cons_of_mem))) rfl).mono ?_; rintro e w4 ⟨rfl, q4⟩; replace H := Hp.step (by with_reducible repeat (first | exact H | apply Hp.alloc | apply Hp.set | apply Hp.drew | apply Hp.drewN | apply Hp.bytesW | exact Upd.here | exact Upd.hereR | apply Upd.there | apply Sz.alloc | apply Sz.set | apply Sz.drew | apply Sz.drewN | apply Sz.bytesW | assumption | exact Sz.base _)) q4; (try simp only [List.set_cons_zero, List.set_cons_succ, List.cons_append, List.nil_append] at H); clear q4 F; have F := H.facts; simp only [Facts, NeF, box, row, reg, cellsF, rCert, rCertKey, rInt, ne_eq, true_and, and_true, Nat.reduceAdd, Nat.zero_add] at F; have c9 := HRW.out _ _ H (by with_reducible repeat (first | exact List.mem_cons_self | apply List.mem_cons_of_mem)) 0 hL0; rw [HX0.out] at c9)
    refine (atC_any A n c bs 0 _ (hr.grow (Hp.b (by with_reducible repeat (first | exact H | apply Hp.alloc | apply Hp.set | apply Hp.drew | apply Hp.drewN | apply Hp.bytesW | exact Upd.here | exact Upd.hereR | apply Upd.there | apply Sz.alloc | apply Sz.set | apply Sz.drew | apply Sz.drewN | apply Sz.bytesW | assumption | exact Sz.base _)))) hn (by omega) hn20).mono ?_
    rintro e w5 ⟨v, rfl, hv, q5⟩
    replace H := Hp.step (by with_reducible repeat (first | exact H | apply Hp.alloc | apply Hp.set | apply Hp.drew | apply Hp.drewN | apply Hp.bytesW | exact Upd.here | exact Upd.hereR | apply Upd.there | apply Sz.alloc | apply Sz.set | apply Sz.drew | apply Sz.drewN | apply Sz.bytesW | assumption | exact Sz.base _)) q5; (try simp only [List.set_cons_zero, List.set_cons_succ, List.cons_append, List.nil_append] at H); clear q5 F c9; have F := H.facts; simp only [Facts, NeF, box, row, reg, cellsF, rCert, rCertKey, rInt, ne_eq, true_and, and_true, Nat.reduceAdd, Nat.zero_add] at F
    obtain ⟨m, rfl⟩ := Int.eq_ofNat_of_zero_le hv.1
    obtain ⟨k, hk⟩ : ∃ k, m % rl.length = k := ⟨_, rfl⟩
    have hkl : k < rl.length := by rw [← hk]; exact Nat.mod_lt _ hL0
    have hmod : Int.tmod (m : Int) (rl.length : Int) = (k : Int) := by rw [← hk]; rfl
    have hwk : IntKind.i64.wrap (k : Int) = (k : Int) := by rw [IntKind.wrap_i64]; omega
    have hkli : (k : Int) < (rl.length : Int) := by omega
    have hk0 : (0 : Int) ≤ (k : Int) := by omega
    have hlne : ¬ (rl.length : Int) = 0 := by omega
    obtain ⟨rd, rb, hkill, hfal, htru⟩ := HLAW.out rl[k] (List.getElem_mem hkl)
    have hrdl : rd.length ≤ 62 := by have := killU_len cs ks ds rl[k]; rw [hkill] at this; simp at this; omega
    have HKILL := Lib.hid hkill
    have HFAL := Lib.hid hfal
    have HTRU := Lib.hid htru
    have c9 := HRW.out _ _ H (by with_reducible repeat (first | exact List.mem_cons_self | apply List.mem_cons_of_mem)) k hkl
    clear hkill hfal htru HLAW hk hv
    generalize rl[k] = y at *
    have hgl := (H.rowM (show rInt (some ⟨g3, 0, none⟩) d3 rl ∈ _ from (by with_reducible repeat (first | exact List.mem_cons_self | apply List.mem_cons_of_mem)))).lt g3 rfl
    have hgz : ¬ g3 = w5.heap.size ∧ ¬ w5.heap.size = g3 := by omega
    go_upto_region 13 with fail
    go_cut [11, 12] (fun s11 s12 wc => ∃ (D : Nat) (E0 : Option Addr) (f0 : Nat) (E1 : Option Addr) (f1 : Nat) (E2 : Option Addr) (f2 : Nat), s11 = .pointer (some ⟨D, 0, none⟩) ∧ s12 = .bool rb ∧ Hp w wc [box D 28 [.slice E0 cs.length f0, .slice E1 ks.length f1, .slice E2 rd.length f2], rCert E0 f0 cs, rCertKey E1 f1 ks, rInt E2 f2 rd, box w1.heap.size 28 [.slice A0 cs.length c0, .slice A1 ks.length c1, .slice A2 ds.length c2]])
    case first =>
      go_region_law (first | (go_simp; go_at_call 15; refine call_atC (w0 := w) (by with_reducible repeat (first | exact H | apply Hp.alloc | apply Hp.set | apply Hp.drew | apply Hp.drewN | apply Hp.bytesW | exact Upd.here | exact Upd.hereR | apply Upd.there | apply Sz.alloc | apply Sz.set | apply Sz.drew | apply Sz.drewN | apply Sz.bytesW | assumption | exact Sz.base _)) fun H7 => ?_; (try simp only [List.set_cons_zero, List.set_cons_succ, List.cons_append, List.nil_append] at H7); refine (implKill_hp A0 cs.length c0 cs A1 ks.length c1 ks A2 ds.length c2 ds y rd rb _ HKILL.out (Hp.rdM H7 (show rCert A0 c0 cs ∈ _ from (by with_reducible repeat (first | exact List.mem_cons_self | apply List.mem_cons_of_mem)))) rfl (by omega) HFI.out (Hp.rdM H7 (show rCertKey A1 c1 ks ∈ _ from (by with_reducible repeat (first | exact List.mem_cons_self | apply List.mem_cons_of_mem)))) rfl (by omega) (Hp.rdM H7 (show rInt A2 c2 ds ∈ _ from (by with_reducible repeat (first | exact List.mem_cons_self | apply List.mem_cons_of_mem)))) rfl (by omega) (hml.on H7.b)).mono ?_; rintro e w6 ⟨E0, f0, E1, f1, E2, f2, rfl, h9⟩; clear H; (try clear F); have H := Hp.call H7 h9; clear h9 H7; (try simp only [List.set_cons_zero, List.set_cons_succ, List.cons_append, List.nil_append] at H); have F := H.facts; simp only [Facts, NeF, box, row, reg, cellsF, rCert, rCertKey, rInt, ne_eq, true_and, and_true, Nat.reduceAdd, Nat.zero_add] at F))
      all_goals
        go_wp2_with fail
        go_meet
        exact ⟨_, E0, f0, E1, f1, E2, f2, rfl, rfl, (by refine Hp.sel (by with_reducible repeat (first | exact H | apply Hp.alloc | apply Hp.set | apply Hp.drew | apply Hp.drewN | apply Hp.bytesW | exact Upd.here | exact Upd.hereR | apply Upd.there | apply Sz.alloc | apply Sz.set | apply Sz.drew | apply Sz.drewN | apply Sz.bytesW | assumption | exact Sz.base _)) ?_; (try simp only [List.set_cons_zero, List.set_cons_succ]); exact (by with_reducible repeat (first | exact Sel.nil | apply Sel.cons | exact Del.here | apply Del.there)))⟩
    case rest =>
    clear H F
    obtain ⟨D, E0, f0, E1, f1, E2, f2, rfl, rfl, H⟩ := hcut
    have F := H.facts; simp only [Facts, NeF, box, row, reg, cellsF, rCert, rCertKey, rInt, ne_eq, true_and, and_true, Nat.reduceAdd, Nat.zero_add] at F
    clear hgl hgz c9
    cases rb with
    | false =>
      have h60e := HFAL.out rfl
      have b60 : ((ds.length : Int) == 60) = true := by rw [h60e]; rfl
      clear h60e
      go_wp2_with fail
      go_ret
      exact ⟨rfl, Hp.b (by with_reducible repeat (first | exact H | apply Hp.alloc | apply Hp.set | apply Hp.drew | apply Hp.drewN | apply Hp.bytesW | exact Upd.here | exact Upd.hereR | apply Upd.there | apply Sz.alloc | apply Sz.set | apply Sz.drew | apply Sz.drewN | apply Sz.bytesW | assumption | exact Sz.base _))⟩
    | true =>
      obtain ⟨hch, ⟨pcs, pks, pds, pn⟩, hpr, hpn, hch2⟩ := HTRU.out rfl
      have HCH := Lib.hid hch
      have HPR := Lib.hid hpr
      have HCH2 := Lib.hid (show chainU pcs pks pds x now = ([], 4) from hch2)
      have hpn : (0 : Int) ≤ pn := hpn
      have hpn2 : decide ((0 : Int) ≤ pn) = true := decide_eq_true hpn
      have hpl : pcs.length ≤ 1048576 ∧ pks.length ≤ 1048576 ∧ pds.length ≤ 1048576 := by have := pruneU_len cs ks rd now (by omega) (by omega) (by omega); rw [hpr] at this; exact this
      have hpfit : ∀ u ∈ pcs, CertFits u := by
        have h9 : pcs = (pruneU cs ks rd now).cs := by rw [hpr]
        intro u hu
        rw [h9] at hu
        unfold pruneU at hu
        split at hu
        · exact HFI.out u (List.mem_filter.1 hu).1
        · exact HFI.out u hu
      have HPF := Lib.hid hpfit
      clear hch hpr hch2 hpfit HKILL HFAL HTRU
      go_wp2_with fail
      refine call_atC (w0 := w) (by with_reducible repeat (first | exact H | apply Hp.alloc | apply Hp.set | apply Hp.drew | apply Hp.drewN | apply Hp.bytesW | exact Upd.here | exact Upd.hereR | apply Upd.there | apply Sz.alloc | apply Sz.set | apply Sz.drew | apply Sz.drewN | apply Sz.bytesW | assumption | exact Sz.base _)) fun H7 => ?_
      (try simp only [List.set_cons_zero, List.set_cons_succ, List.cons_append, List.nil_append] at H7)
      refine (implChain_hp E0 cs.length f0 cs E1 ks.length f1 ks E2 rd.length f2 rd x now [] 4 _ HCH.out (Hp.rdM H7 (show rCert E0 f0 cs ∈ _ from (by with_reducible repeat (first | exact List.mem_cons_self | apply List.mem_cons_of_mem)))) rfl (by omega) HFI.out (Hp.rdM H7 (show rCertKey E1 f1 ks ∈ _ from (by with_reducible repeat (first | exact List.mem_cons_self | apply List.mem_cons_of_mem)))) rfl (Hp.rdM H7 (show rInt E2 f2 rd ∈ _ from (by with_reducible repeat (first | exact List.mem_cons_self | apply List.mem_cons_of_mem)))) rfl (by omega) (hml.on H7.b)).mono ?_
      rintro e w7 ⟨X7, y7, rfl, h9⟩
      clear H F
      have H := Hp.call H7 h9
      clear h9 H7
      (try simp only [List.set_cons_zero, List.set_cons_succ, List.cons_append, List.nil_append] at H)
      have F := H.facts; simp only [Facts, NeF, box, row, reg, cellsF, rCert, rCertKey, rInt, ne_eq, true_and, and_true, Nat.reduceAdd, Nat.zero_add] at F
      go_wp2_with fail
      (refine call_atC (w0 := w) (by with_reducible repeat (first | exact H | apply Hp.alloc | apply Hp.set | apply Hp.drew | apply Hp.drewN | apply Hp.bytesW | exact Upd.here | exact Upd.hereR | apply Upd.there | apply Sz.alloc | apply Sz.set | apply Sz.drew | apply Sz.drewN | apply Sz.bytesW | assumption | exact Sz.base _)) fun H7 => ?_; (try simp only [List.set_cons_zero, List.set_cons_succ, List.cons_append, List.nil_append] at H7); refine (implPrune_at E0 cs.length f0 cs E1 ks.length f1 ks E2 rd.length f2 rd now pcs pks pds pn _ HPR.out (Hp.rdM H7 (show rCert E0 f0 cs ∈ _ from (by with_reducible repeat (first | exact List.mem_cons_self | apply List.mem_cons_of_mem)))) rfl (by omega) HFI.out (Hp.rdM H7 (show rCertKey E1 f1 ks ∈ _ from (by with_reducible repeat (first | exact List.mem_cons_self | apply List.mem_cons_of_mem)))) rfl (by omega) (Hp.rdM H7 (show rInt E2 f2 rd ∈ _ from (by with_reducible repeat (first | exact List.mem_cons_self | apply List.mem_cons_of_mem)))) rfl (by omega) (hml.on H7.b)).mono ?_; rintro e w8 ⟨G0, h0, G1, h1, G2, h2, rfl, h9⟩; clear H; (try clear F); have H := Hp.call H7 h9; clear h9 H7; (try simp only [List.set_cons_zero, List.set_cons_succ, List.cons_append, List.nil_append] at H); have F := H.facts; simp only [Facts, NeF, box, row, reg, cellsF, rCert, rCertKey, rInt, ne_eq, true_and, and_true, Nat.reduceAdd, Nat.zero_add] at F)
      all_goals
        go_wp2_with fail
        refine call_atC (w0 := w) (by with_reducible repeat (first | exact H | apply Hp.alloc | apply Hp.set | apply Hp.drew | apply Hp.drewN | apply Hp.bytesW | exact Upd.here | exact Upd.hereR | apply Upd.there | apply Sz.alloc | apply Sz.set | apply Sz.drew | apply Sz.drewN | apply Sz.bytesW | assumption | exact Sz.base _)) fun H7 => ?_
        (try simp only [List.set_cons_zero, List.set_cons_succ, List.cons_append, List.nil_append] at H7)
        refine (implChain_hp G0 pcs.length h0 pcs G1 pks.length h1 pks G2 pds.length h2 pds x now [] 4 _ HCH2.out (Hp.rdM H7 (show rCert G0 h0 pcs ∈ _ from (by with_reducible repeat (first | exact List.mem_cons_self | apply List.mem_cons_of_mem)))) rfl (by omega) HPF.out (Hp.rdM H7 (show rCertKey G1 h1 pks ∈ _ from (by with_reducible repeat (first | exact List.mem_cons_self | apply List.mem_cons_of_mem)))) rfl (Hp.rdM H7 (show rInt G2 h2 pds ∈ _ from (by with_reducible repeat (first | exact List.mem_cons_self | apply List.mem_cons_of_mem)))) rfl (by omega) (hml.on H7.b)).mono ?_
        rintro e w9 ⟨X9, y9, rfl, h9⟩
        clear H F
        have H := Hp.call H7 h9
        clear h9 H7
        (try simp only [List.set_cons_zero, List.set_cons_succ, List.cons_append, List.nil_append] at H)
        have F := H.facts; simp only [Facts, NeF, box, row, reg, cellsF, rCert, rCertKey, rInt, ne_eq, true_and, and_true, Nat.reduceAdd, Nat.zero_add] at F
        go_wp2_with fail
        go_ret
        exact ⟨rfl, Hp.b (by with_reducible repeat (first | exact H | apply Hp.alloc | apply Hp.set | apply Hp.drew | apply Hp.drewN | apply Hp.bytesW | exact Upd.here | exact Upd.hereR | apply Upd.there | apply Sz.alloc | apply Sz.set | apply Sz.drew | apply Sz.drewN | apply Sz.bytesW | assumption | exact Sz.base _))⟩
  · have hrc1 : (rc != 0) = true := by simp [hrc]
    go_wp2_with (go_at_call 12; refine (sameInts_any B3 B2 rl.length d3 d2 rl _ (Hp.rdM (by with_reducible repeat (first | exact H | apply Hp.alloc | apply Hp.set | apply Hp.drew | apply Hp.drewN | apply Hp.bytesW | exact Upd.here | exact Upd.hereR | apply Upd.there | apply Sz.alloc | apply Sz.set | apply Sz.drew | apply Sz.drewN | apply Sz.bytesW | assumption | exact Sz.base _)) (by with_reducible repeat (first | exact List.mem_cons_self | apply List.mem_cons_of_mem))) (Hp.rdM (by with_reducible repeat (first | exact H | apply Hp.alloc | apply Hp.set | apply Hp.drew | apply Hp.drewN | apply Hp.bytesW | exact Upd.here | exact Upd.hereR | apply Upd.there | apply Sz.alloc | apply Sz.set | apply Sz.drew | apply Sz.drewN | apply Sz.bytesW | assumption | exact Sz.base _)) (by with_reducible repeat (first | exact List.mem_cons_self | apply List.mem_cons_of_mem))) rfl).mono ?_; rintro e w4 ⟨rfl, q4⟩; replace H := Hp.step (by with_reducible repeat (first | exact H | apply Hp.alloc | apply Hp.set | apply Hp.drew | apply Hp.drewN | apply Hp.bytesW | exact Upd.here | exact Upd.hereR | apply Upd.there | apply Sz.alloc | apply Sz.set | apply Sz.drew | apply Sz.drewN | apply Sz.bytesW | assumption | exact Sz.base _)) q4; (try simp only [List.set_cons_zero, List.set_cons_succ, List.cons_append, List.nil_append] at H); clear q4 F; have F := H.facts; simp only [Facts, NeF, box, row, reg, cellsF, rCert, rCertKey, rInt, ne_eq, true_and, and_true, Nat.reduceAdd, Nat.zero_add] at F)
    go_ret
    exact ⟨rfl, Hp.b (by with_reducible repeat (first | exact H | apply Hp.alloc | apply Hp.set | apply Hp.drew | apply Hp.drewN | apply Hp.bytesW | exact Upd.here | exact Upd.hereR | apply Upd.there | apply Sz.alloc | apply Sz.set | apply Sz.drew | apply Sz.drewN | apply Sz.bytesW | assumption | exact Sz.base _))⟩
end Go.Proofs.YtlblkpcjknjijaaGreatDoor

/- Piles: what a pruning leaves (the program's). No condition. -/
import Derived.Test.YtlblkpcjknjijaaGreatDoorPruneP
import Derived.Test.YtlblkpcjknjijaaGreatDoorPileD
import Derived.Test.YtlblkpcjknjijaaGreatDoorPileC
set_option linter.unusedVariables false
set_option linter.unusedSimpArgs false
namespace Go.Proofs.YtlblkpcjknjijaaGreatDoor
open Go.RowKit
set_option linter.unusedVariables false
set_option linter.unusedSimpArgs false
set_option maxHeartbeats 32000000 in
set_option maxRecDepth 10000 in
theorem implPrune_hp (A0 : Option Addr) (n0 c0 : Nat) (cs : List Cert) (A1 : Option Addr) (n1 c1 : Nat) (ks : List CertKey) (A2 : Option Addr) (n2 c2 : Nat) (ds : List Int) (now : Int) (rp : PruneR) (w : World) (hd : pruneU cs ks ds now = rp) (hr0 : Rd w w.heap.size 8 A0 n0 c0 (cs.flatMap encCert)) (hn0 : cs.length = n0) (hb0 : n0 ≤ 1048576) (hsz : ∀ u ∈ cs, CertFits u) (hr1 : Rd w w.heap.size 2 A1 n1 c1 (ks.flatMap encCertKey)) (hn1 : ks.length = n1) (hb1 : n1 ≤ 1048576) (hr2 : Rd w w.heap.size 1 A2 n2 c2 (ds.flatMap encInt)) (hn2 : ds.length = n2) (hb2 : n2 ≤ 1048576) (hml : mlOk w) :
    Calls Tryz.prog 16 #[pileV A0 n0 c0 A1 n1 c1 A2 n2 c2, .int .i64 now] w fun e w' => ∃ B0 d0 B1 d1 B2 d2, e = .returned (.tuple #[pileV B0 rp.cs.length d0 B1 rp.ks.length d1 B2 rp.ds.length d2, .int .i64 rp.n]) ∧ Hp w w' [rCert B0 d0 rp.cs, rCertKey B1 d1 rp.ks, rInt B2 d2 rp.ds] := by
  subst hn0 hn1 hn2
  obtain ⟨i0, hi0, hz0, hz1, hz2⟩ := info_parts Tryz.infoCert
  obtain ⟨j0, hj0, hy0, hy1, hy2⟩ := info_parts Tryz.infoCertKey
  obtain ⟨t0, ht0, hx0, hx1, hx2⟩ := info_parts Tryz.infoInt
  have hc0 := hr0.2.1
  have hm0 := hr0.2.2.1
  have hc1 := hr1.2.1
  have hm1 := hr1.2.2.1
  have hc2 := hr2.2.1
  have hm2 := hr2.2.2.1
  unfold maxLen at hm0 hm1 hm2
  have H := Hp.nil w
  have HD := Lib.hid hd; clear hd
  cases h1 : pileOk cs ks ds with
  | false =>
    have HR : Hid ((⟨cs, ks, ds, -1⟩ : PruneR) = rp) := by show _ = _; rw [← HD.out, pruneU, if_neg (by rw [h1]; decide)]
    clear HD
    go_enter Tryz.func16, Tryz.ntmps16
    go_wp2_with (first | (go_at_call 29; refine (isPile_any A0 cs.length c0 cs A1 ks.length c1 ks A2 ds.length c2 ds _ (hr0.grow (Hp.b (by with_reducible repeat (first | exact H | apply Hp.alloc | apply Hp.set | apply Hp.drew | apply Hp.drewN | apply Hp.bytesW | exact Upd.here | exact Upd.hereR | apply Upd.there | apply Sz.alloc | apply Sz.set | apply Sz.drew | apply Sz.drewN | apply Sz.bytesW | assumption | exact Sz.base _)))) rfl hsz (hr1.grow (Hp.b (by with_reducible repeat (first | exact H | apply Hp.alloc | apply Hp.set | apply Hp.drew | apply Hp.drewN | apply Hp.bytesW | exact Upd.here | exact Upd.hereR | apply Upd.there | apply Sz.alloc | apply Sz.set | apply Sz.drew | apply Sz.drewN | apply Sz.bytesW | assumption | exact Sz.base _)))) rfl (hr2.grow (Hp.b (by with_reducible repeat (first | exact H | apply Hp.alloc | apply Hp.set | apply Hp.drew | apply Hp.drewN | apply Hp.bytesW | exact Upd.here | exact Upd.hereR | apply Upd.there | apply Sz.alloc | apply Sz.set | apply Sz.drew | apply Sz.drewN | apply Sz.bytesW | assumption | exact Sz.base _)))) rfl (hml.on (Hp.b (by with_reducible repeat (first | exact H | apply Hp.alloc | apply Hp.set | apply Hp.drew | apply Hp.drewN | apply Hp.bytesW | exact Upd.here | exact Upd.hereR | apply Upd.there | apply Sz.alloc | apply Sz.set | apply Sz.drew | apply Sz.drewN | apply Sz.bytesW | assumption | exact Sz.base _))))).mono ?_; rintro e w1 ⟨rfl, hb1⟩; rw [h1]; replace H := Hp.step (by with_reducible repeat (first | exact H | apply Hp.alloc | apply Hp.set | apply Hp.drew | apply Hp.drewN | apply Hp.bytesW | exact Upd.here | exact Upd.hereR | apply Upd.there | apply Sz.alloc | apply Sz.set | apply Sz.drew | apply Sz.drewN | apply Sz.bytesW | assumption | exact Sz.base _)) hb1; (try simp only [List.set_cons_zero, List.set_cons_succ, List.cons_append, List.nil_append] at H); clear hb1; have F := H.facts; simp only [Facts, NeF, box, row, reg, cellsF, rCert, rCertKey, rInt, ne_eq, true_and, and_true, Nat.reduceAdd, Nat.zero_add] at F) | (go_at_call 28; refine (clonePile_hp A0 cs.length c0 cs A1 ks.length c1 ks A2 ds.length c2 ds _ (hr0.grow (Hp.b (by with_reducible repeat (first | exact H | apply Hp.alloc | apply Hp.set | apply Hp.drew | apply Hp.drewN | apply Hp.bytesW | exact Upd.here | exact Upd.hereR | apply Upd.there | apply Sz.alloc | apply Sz.set | apply Sz.drew | apply Sz.drewN | apply Sz.bytesW | assumption | exact Sz.base _)))) rfl hb0 (hr1.grow (Hp.b (by with_reducible repeat (first | exact H | apply Hp.alloc | apply Hp.set | apply Hp.drew | apply Hp.drewN | apply Hp.bytesW | exact Upd.here | exact Upd.hereR | apply Upd.there | apply Sz.alloc | apply Sz.set | apply Sz.drew | apply Sz.drewN | apply Sz.bytesW | assumption | exact Sz.base _)))) rfl hb1 (hr2.grow (Hp.b (by with_reducible repeat (first | exact H | apply Hp.alloc | apply Hp.set | apply Hp.drew | apply Hp.drewN | apply Hp.bytesW | exact Upd.here | exact Upd.hereR | apply Upd.there | apply Sz.alloc | apply Sz.set | apply Sz.drew | apply Sz.drewN | apply Sz.bytesW | assumption | exact Sz.base _)))) rfl hb2).mono ?_; rintro e w3 ⟨B0, d0, B1, d1, B2, d2, rfl, e1⟩; replace H := Hp.call (by with_reducible repeat (first | exact H | apply Hp.alloc | apply Hp.set | apply Hp.drew | apply Hp.drewN | apply Hp.bytesW | exact Upd.here | exact Upd.hereR | apply Upd.there | apply Sz.alloc | apply Sz.set | apply Sz.drew | apply Sz.drewN | apply Sz.bytesW | assumption | exact Sz.base _)) e1; (try simp only [List.set_cons_zero, List.set_cons_succ, List.cons_append, List.nil_append] at H); clear e1 F; have F := H.facts; simp only [Facts, NeF, box, row, reg, cellsF, rCert, rCertKey, rInt, ne_eq, true_and, and_true, Nat.reduceAdd, Nat.zero_add] at F))
    obtain rfl := HR.out
    refine bodyPost_ret (v := .tuple #[pileV B0 cs.length d0 B1 ks.length d1 B2 ds.length d2, .int .i64 (-1)]) (by simp [results, Tryz.results16, go_sem, F] <;> omega) rfl ⟨B0, d0, B1, d1, B2, d2, rfl, (by refine Hp.sel (by with_reducible repeat (first | exact H | apply Hp.alloc | apply Hp.set | apply Hp.drew | apply Hp.drewN | apply Hp.bytesW | exact Upd.here | exact Upd.hereR | apply Upd.there | apply Sz.alloc | apply Sz.set | apply Sz.drew | apply Sz.drewN | apply Sz.bytesW | assumption | exact Sz.base _)) ?_; (try simp only [List.set_cons_zero, List.set_cons_succ]); exact (by with_reducible repeat (first | exact Sel.nil | apply Sel.cons | exact Del.here | apply Del.there)))⟩
  | true =>
  have HR : Hid ((⟨keepC now cs, keepK now cs ks, keepD (goneC now cs) ds, (goneC now cs).length⟩ : PruneR) = rp) := by show _ = _; rw [← HD.out, pruneU, if_pos h1]
  obtain ⟨h60, hkl, hd60, -, -⟩ := pile_iff h1
  have HKL := Lib.hid hkl; clear hkl
  clear HD
  go_enter Tryz.func16, Tryz.ntmps16
  go_wp2_with (go_at_call 29; refine (isPile_any A0 cs.length c0 cs A1 ks.length c1 ks A2 ds.length c2 ds _ (hr0.grow (Hp.b (by with_reducible repeat (first | exact H | apply Hp.alloc | apply Hp.set | apply Hp.drew | apply Hp.drewN | apply Hp.bytesW | exact Upd.here | exact Upd.hereR | apply Upd.there | apply Sz.alloc | apply Sz.set | apply Sz.drew | apply Sz.drewN | apply Sz.bytesW | assumption | exact Sz.base _)))) rfl hsz (hr1.grow (Hp.b (by with_reducible repeat (first | exact H | apply Hp.alloc | apply Hp.set | apply Hp.drew | apply Hp.drewN | apply Hp.bytesW | exact Upd.here | exact Upd.hereR | apply Upd.there | apply Sz.alloc | apply Sz.set | apply Sz.drew | apply Sz.drewN | apply Sz.bytesW | assumption | exact Sz.base _)))) rfl (hr2.grow (Hp.b (by with_reducible repeat (first | exact H | apply Hp.alloc | apply Hp.set | apply Hp.drew | apply Hp.drewN | apply Hp.bytesW | exact Upd.here | exact Upd.hereR | apply Upd.there | apply Sz.alloc | apply Sz.set | apply Sz.drew | apply Sz.drewN | apply Sz.bytesW | assumption | exact Sz.base _)))) rfl (hml.on (Hp.b (by with_reducible repeat (first | exact H | apply Hp.alloc | apply Hp.set | apply Hp.drew | apply Hp.drewN | apply Hp.bytesW | exact Upd.here | exact Upd.hereR | apply Upd.there | apply Sz.alloc | apply Sz.set | apply Sz.drew | apply Sz.drewN | apply Sz.bytesW | assumption | exact Sz.base _))))).mono ?_; rintro e w1 ⟨rfl, hb1⟩; rw [h1]; replace H := Hp.step (by with_reducible repeat (first | exact H | apply Hp.alloc | apply Hp.set | apply Hp.drew | apply Hp.drewN | apply Hp.bytesW | exact Upd.here | exact Upd.hereR | apply Upd.there | apply Sz.alloc | apply Sz.set | apply Sz.drew | apply Sz.drewN | apply Sz.bytesW | assumption | exact Sz.base _)) hb1; (try simp only [List.set_cons_zero, List.set_cons_succ, List.cons_append, List.nil_append] at H); clear hb1; have F := H.facts; simp only [Facts, NeF, box, row, reg, cellsF, rCert, rCertKey, rInt, ne_eq, true_and, and_true, Nat.reduceAdd, Nat.zero_add] at F)
  clear F h1
  generalize hB6 : w1.heap.size = b6 at *
  have HS6 : Sz w1 b6 := hB6
  clear hB6
  have HH := Lib.hid H; clear H
  go_loopw [20, 7] (fun i vG wr => ∃ k : Nat, k ≤ cs.length ∧ i = .int .i64 k ∧ ∃ ls qs gs, Hid (keepC now (cs.take k) = ls ∧ keepK now (cs.take k) (ks.take k) = qs ∧ goneC now (cs.take k) = gs ∧ ls.length ≤ k ∧ qs.length ≤ k ∧ gs.length ≤ k) ∧ ∃ A d A' d' G gd, vG = .slice G gs.length gd ∧ Hid (Hp w wr [rCert A d ls, rCertKey A' d' qs, rInt G gd gs, box b6 28 [.slice A ls.length d, .slice A' qs.length d', .slice none 0 0], box (w.heap.size + 1) 28 [.slice none 0 0, .slice none 0 0, .slice none 0 0], box w.heap.size 28 [.slice A0 cs.length c0, .slice A1 ks.length c1, .slice A2 ds.length c2]])) (fun i _ _ => cs.length - (intOf i).toNat)
  case atStart =>
    have H := HH.out
    refine ⟨0, Nat.zero_le _, rfl, [], [], [], ⟨rfl, rfl, rfl, Nat.le_refl _, Nat.le_refl _, Nat.le_refl _⟩, none, 0, none, 0, none, 0, rfl, ?_⟩
    exact Lib.hid (Hp.give (Hp.cons_nilRow (Hp.cons_nilRow (Hp.cons_nilRow (by with_reducible repeat (first | exact H | apply Hp.alloc | apply Hp.set | apply Hp.drew | apply Hp.drewN | apply Hp.bytesW | exact Upd.here | exact Upd.hereR | apply Upd.there | apply Sz.alloc | apply Sz.set | apply Sz.drew | apply Sz.drewN | apply Sz.bytesW | assumption | exact Sz.base _)) 3 1) 57 2) 30 8) [0, 1, 2, 3, 4, 5] (by decide) (by rfl))
  case round =>
    clear HH HS6
    obtain ⟨k, hk, rfl, ls, qs, gs, HX, A, d, A', d', G, gd, rfl, HP⟩ := hrel
    have H := HP.out
    have F := H.facts; simp only [Facts, NeF, box, row, reg, cellsF, rCert, rCertKey, rInt, ne_eq, true_and, and_true, Nat.reduceAdd, Nat.zero_add] at F
    by_cases hlt : k < cs.length
    · obtain ⟨b, off, rfl, hb⟩ := Rd.atC encCert_len hr0 rfl (by omega)
      have hkk : k < ks.length := by have := HKL.out; omega
      obtain ⟨b1, off1, rfl, hb1'⟩ := Rd.atC encCertKey_len hr1 rfl (by omega)
      have hcs : ∀ (W : World) (L : List Ent), Hp w W L → _ := fun W L h => Rd.certAt hr0 rfl (k := k) hlt rfl W h.b
      have HCS := Lib.hid hcs; clear hcs
      have hks : ∀ (W : World) (L : List Ent), Hp w W L → _ := fun W L h => Rd.keyAt hr1 rfl (k := k) hkk rfl W h.b
      have HKS := Lib.hid hks; clear hks
      obtain ⟨e0, e1, e2, e3, e4, e5, e6, e7⟩ := HCS.out _ _ H
      obtain ⟨q0, q1⟩ := HKS.out _ _ H
      obtain ⟨x1, x2, x3, x4, x5, x6⟩ := HX.out
      have hk1 : (k : Int) < (cs.length : Int) := by omega
      have hk2 : (k : Int) < (ks.length : Int) := by omega
      have hk0 : (0 : Int) ≤ (k : Int) := by omega
      have hl1 : ls.length + 1 ≤ maxLen := by unfold maxLen; omega
      have hl2 : qs.length + 1 ≤ maxLen := by unfold maxLen; omega
      have hl3 : gs.length + 1 ≤ maxLen := by unfold maxLen; omega
      have hbw : b < wr.heap.size := Nat.lt_of_lt_of_le hb H.b.size
      have hbe : ¬ b = wr.heap.size ∧ ¬ wr.heap.size = b := by omega
      have hbw1 : b1 < wr.heap.size := Nat.lt_of_lt_of_le hb1' H.b.size
      have hbe1 : ¬ b1 = wr.heap.size ∧ ¬ wr.heap.size = b1 := by omega
      cases hol : oldC now cs[k] with
      | true =>
        have hto : cs[k].to_ < now := by simpa [oldC] using hol
        have hod : decide (cs[k].to_ < now) = true := decide_eq_true hto
        have HN : Hid (keepC now (cs.take (k + 1)) = ls ∧ keepK now (cs.take (k + 1)) (ks.take (k + 1)) = qs ∧ goneC now (cs.take (k + 1)) = gs ++ [cs[k].ser] ∧ ls.length ≤ k + 1 ∧ qs.length ≤ k + 1 ∧ (gs ++ [cs[k].ser]).length ≤ k + 1) := ⟨by rw [keepC_hit hlt hol, x1], by rw [keepK_hit hlt HKL.out hol, x2], by rw [goneC_hit hlt hol, x3], by omega, by omega, by simp; omega⟩
        clear x1 x2 x3 hol
        generalize cs[k] = u at *
        obtain ⟨ser, owner, iss, from_, to_, ca, depth, mark⟩ := u
        dsimp only at hto hod HN e0 e1 e2 e3 e4 e5 e6 e7
        go_wp2_with (first | (at_builtin; refine wpList_append_lies _ (by rfl) _ _ 26 (by rfl) w.heap.size 3 t0 _ 1 _ Tryz.underlying26 ht0 hx0 hx1 hx2 (by rfl) (by decide) (.slice G (gs.length) gd) (gs.length) _ (by rfl) (Hp.rowM (by with_reducible repeat (first | exact H | apply Hp.alloc | apply Hp.set | apply Hp.drew | apply Hp.drewN | apply Hp.bytesW | exact Upd.here | exact Upd.hereR | apply Upd.there | apply Sz.alloc | apply Sz.set | apply Sz.drew | apply Sz.drewN | apply Sz.bytesW | assumption | exact Sz.base _)) (by with_reducible repeat (first | exact List.mem_cons_self | apply List.mem_cons_of_mem))) ⟨(wr.heap.size + 1), 0, none⟩ 1 1 (encInt ser) (by rfl) (by rfl) (Hp.news (by with_reducible repeat (first | exact H | apply Hp.alloc | apply Hp.set | apply Hp.drew | apply Hp.drewN | apply Hp.bytesW | exact Upd.here | exact Upd.hereR | apply Upd.there | apply Sz.alloc | apply Sz.set | apply Sz.drew | apply Sz.drewN | apply Sz.bytesW | assumption | exact Sz.base _)) 0 (by rfl)) (oneInt ser) (by decide) hl3 (by omega) (Hp.b (by with_reducible repeat (first | exact H | apply Hp.alloc | apply Hp.set | apply Hp.drew | apply Hp.drewN | apply Hp.bytesW | exact Upd.here | exact Upd.hereR | apply Upd.there | apply Sz.alloc | apply Sz.set | apply Sz.drew | apply Sz.drewN | apply Sz.bytesW | assumption | exact Sz.base _))).size _ rfl ?_; intro g cap wa hown hgrow hat hlt1; have H5 := Hp.appM (by with_reducible repeat (first | exact H | apply Hp.alloc | apply Hp.set | apply Hp.drew | apply Hp.drewN | apply Hp.bytesW | exact Upd.here | exact Upd.hereR | apply Upd.there | apply Sz.alloc | apply Sz.set | apply Sz.drew | apply Sz.drewN | apply Sz.bytesW | assumption | exact Sz.base _)) (by with_reducible repeat (first | exact Rep.here | apply Rep.there)) hown hgrow hat rfl hlt1; (try simp only [List.set_cons_zero, List.set_cons_succ, List.cons_append, List.nil_append] at H5); have FA := H5.facts; simp only [Facts, NeF, box, row, reg, cellsF, rCert, rCertKey, rInt, ne_eq, true_and, and_true, Nat.reduceAdd, Nat.zero_add] at FA))
        rw [rInt_snoc] at H5
        go_roundw
        case rel => exact ⟨k + 1, by omega, by go_num, ls, qs, gs ++ [ser], HN, A, d, A', d', some ⟨g, 0, none⟩, cap, by simp, Lib.hid (by simpa using (by refine Hp.sel (by with_reducible repeat (first | exact H5 | apply Hp.alloc | apply Hp.set | apply Hp.drew | apply Hp.drewN | apply Hp.bytesW | exact Upd.here | exact Upd.hereR | apply Upd.there | apply Sz.alloc | apply Sz.set | apply Sz.drew | apply Sz.drewN | apply Sz.bytesW | assumption | exact Sz.base _)) ?_; (try simp only [List.set_cons_zero, List.set_cons_succ]); exact (by with_reducible repeat (first | exact Sel.nil | apply Sel.cons | exact Del.here | apply Del.there))))⟩
        case measure => simp [intOf]; omega
      | false =>
        have hto : ¬ cs[k].to_ < now := by simpa [oldC] using hol
        have hod : decide (cs[k].to_ < now) = false := decide_eq_false hto
        have HN : Hid (keepC now (cs.take (k + 1)) = ls ++ [cs[k]] ∧ keepK now (cs.take (k + 1)) (ks.take (k + 1)) = qs ++ [ks[k]'hkk] ∧ goneC now (cs.take (k + 1)) = gs ∧ (ls ++ [cs[k]]).length ≤ k + 1 ∧ (qs ++ [ks[k]'hkk]).length ≤ k + 1 ∧ gs.length ≤ k + 1) := ⟨by rw [keepC_miss hlt hol, x1], by rw [keepK_miss hlt HKL.out hol, x2], by rw [goneC_miss hlt hol, x3], by simp; omega, by simp; omega, by omega⟩
        clear x1 x2 x3 hol
        generalize cs[k] = u at *
        generalize (ks[k]'hkk) = v at *
        go_wp2_with (first | (at_builtin; refine wpList_append_lies _ (by rfl) _ _ 24 (by rfl) w.heap.size 30 i0 _ 8 _ Tryz.underlying24 hi0 hz0 hz1 hz2 (by rfl) (by decide) (.slice A (ls.length) d) (ls.length) _ (by rfl) (Hp.rowM (by with_reducible repeat (first | exact H | apply Hp.alloc | apply Hp.set | apply Hp.drew | apply Hp.drewN | apply Hp.bytesW | exact Upd.here | exact Upd.hereR | apply Upd.there | apply Sz.alloc | apply Sz.set | apply Sz.drew | apply Sz.drewN | apply Sz.bytesW | assumption | exact Sz.base _)) (by with_reducible repeat (first | exact List.mem_cons_self | apply List.mem_cons_of_mem))) ⟨(wr.heap.size + 1), 0, none⟩ 1 1 (encCert u) (by rfl) (by rfl) (Hp.news (by with_reducible repeat (first | exact H | apply Hp.alloc | apply Hp.set | apply Hp.drew | apply Hp.drewN | apply Hp.bytesW | exact Upd.here | exact Upd.hereR | apply Upd.there | apply Sz.alloc | apply Sz.set | apply Sz.drew | apply Sz.drewN | apply Sz.bytesW | assumption | exact Sz.base _)) 0 (by rfl)) (oneCert u) (by decide) hl1 (by omega) (Hp.b (by with_reducible repeat (first | exact H | apply Hp.alloc | apply Hp.set | apply Hp.drew | apply Hp.drewN | apply Hp.bytesW | exact Upd.here | exact Upd.hereR | apply Upd.there | apply Sz.alloc | apply Sz.set | apply Sz.drew | apply Sz.drewN | apply Sz.bytesW | assumption | exact Sz.base _))).size _ rfl ?_; intro g cap wa hown hgrow hat hlt1; have H5 := Hp.appM (by with_reducible repeat (first | exact H | apply Hp.alloc | apply Hp.set | apply Hp.drew | apply Hp.drewN | apply Hp.bytesW | exact Upd.here | exact Upd.hereR | apply Upd.there | apply Sz.alloc | apply Sz.set | apply Sz.drew | apply Sz.drewN | apply Sz.bytesW | assumption | exact Sz.base _)) (by with_reducible repeat (first | exact Rep.here | apply Rep.there)) hown hgrow hat rfl hlt1; (try simp only [List.set_cons_zero, List.set_cons_succ, List.cons_append, List.nil_append] at H5); have FA := H5.facts; simp only [Facts, NeF, box, row, reg, cellsF, rCert, rCertKey, rInt, ne_eq, true_and, and_true, Nat.reduceAdd, Nat.zero_add] at FA))
        rw [rCert_snoc] at H5
        obtain ⟨g1, rfl⟩ : ∃ x, x = g := ⟨g, rfl⟩
        obtain ⟨cap1, rfl⟩ : ∃ x, x = cap := ⟨cap, rfl⟩
        obtain ⟨wb, rfl⟩ : ∃ x, x = wa := ⟨wa, rfl⟩
        clear hown hgrow hat hlt1
        obtain ⟨w9, hw9⟩ : ∃ w9, w9 = wb.setCell ⟨b6, 0, none⟩ (.slice (some ⟨g1, 0, none⟩) (ls.length + 1) cap1) := ⟨_, rfl⟩
        have H6 : Hp w w9 [rCert (some ⟨g1, 0, none⟩) cap1 (ls ++ [u]), rCertKey A' d' qs, rInt G gd gs, box b6 28 [.slice (some ⟨g1, 0, none⟩) (ls ++ [u]).length cap1, .slice A' qs.length d', .slice none 0 0], box (w.heap.size + 1) 28 [.slice none 0 0, .slice none 0 0, .slice none 0 0], box w.heap.size 28 [.slice (some ⟨b, off, none⟩) cs.length c0, .slice (some ⟨b1, off1, none⟩) ks.length c1, .slice A2 ds.length c2]] := by rw [hw9]; simpa using (by refine Hp.sel (by with_reducible repeat (first | exact H5 | apply Hp.alloc | apply Hp.set | apply Hp.drew | apply Hp.drewN | apply Hp.bytesW | exact Upd.here | exact Upd.hereR | apply Upd.there | apply Sz.alloc | apply Sz.set | apply Sz.drew | apply Sz.drewN | apply Sz.bytesW | assumption | exact Sz.base _)) ?_; (try simp only [List.set_cons_zero, List.set_cons_succ]); exact (by with_reducible repeat (first | exact Sel.nil | apply Sel.cons | exact Del.here | apply Del.there)))
        go_wp2_with fail
        rw [← hw9]
        clear hw9 H5 FA F HP H e0 e1 e2 e3 e4 e5 e6 e7 q0 q1
        generalize ls ++ [u] = ls2 at *
        have F := H6.facts; simp only [Facts, NeF, box, row, reg, cellsF, rCert, rCertKey, rInt, ne_eq, true_and, and_true, Nat.reduceAdd, Nat.zero_add] at F
        obtain ⟨q0, q1⟩ := HKS.out _ _ H6
        have hbw2 : b1 < w9.heap.size := Nat.lt_of_lt_of_le hb1' H6.b.size
        have hbe2 : ¬ b1 = w9.heap.size ∧ ¬ w9.heap.size = b1 := by omega
        go_region_law (first | (refine step_append_lies _ (by rfl) _ _ 25 (by rfl) w.heap.size 57 j0 _ 2 _ Tryz.underlying25 hj0 hy0 hy1 hy2 (by rfl) (by decide) (.slice A' (qs.length) d') (qs.length) _ (by rfl) (Hp.rowM (by with_reducible repeat (first | exact H6 | apply Hp.alloc | apply Hp.set | apply Hp.drew | apply Hp.drewN | apply Hp.bytesW | exact Upd.here | exact Upd.hereR | apply Upd.there | apply Sz.alloc | apply Sz.set | apply Sz.drew | apply Sz.drewN | apply Sz.bytesW | assumption | exact Sz.base _)) (by with_reducible repeat (first | exact List.mem_cons_self | apply List.mem_cons_of_mem))) ⟨w9.heap.size, 0, none⟩ 1 1 (encCertKey v) (by rfl) (by rfl) (Hp.news (by with_reducible repeat (first | exact H6 | apply Hp.alloc | apply Hp.set | apply Hp.drew | apply Hp.drewN | apply Hp.bytesW | exact Upd.here | exact Upd.hereR | apply Upd.there | apply Sz.alloc | apply Sz.set | apply Sz.drew | apply Sz.drewN | apply Sz.bytesW | assumption | exact Sz.base _)) 0 (by rfl)) (oneCertKey v) (by decide) hl2 (by omega) (Hp.b (by with_reducible repeat (first | exact H6 | apply Hp.alloc | apply Hp.set | apply Hp.drew | apply Hp.drewN | apply Hp.bytesW | exact Upd.here | exact Upd.hereR | apply Upd.there | apply Sz.alloc | apply Sz.set | apply Sz.drew | apply Sz.drewN | apply Sz.bytesW | assumption | exact Sz.base _))).size _ rfl ?_; intro g cap wa hown hgrow hat hlt1; have H7 := Hp.appM (by with_reducible repeat (first | exact H6 | apply Hp.alloc | apply Hp.set | apply Hp.drew | apply Hp.drewN | apply Hp.bytesW | exact Upd.here | exact Upd.hereR | apply Upd.there | apply Sz.alloc | apply Sz.set | apply Sz.drew | apply Sz.drewN | apply Sz.bytesW | assumption | exact Sz.base _)) (by with_reducible repeat (first | exact Rep.here | apply Rep.there)) hown hgrow hat rfl hlt1; (try simp only [List.set_cons_zero, List.set_cons_succ, List.cons_append, List.nil_append] at H7); have FA := H7.facts; simp only [Facts, NeF, box, row, reg, cellsF, rCert, rCertKey, rInt, ne_eq, true_and, and_true, Nat.reduceAdd, Nat.zero_add] at FA))
        all_goals
          rw [rCertKey_snoc] at H7
          go_wp2_with fail
          go_roundw
          case rel => exact ⟨k + 1, by omega, by go_num, ls2, qs ++ [v], gs, HN, some ⟨g1, 0, none⟩, cap1, some ⟨g, 0, none⟩, cap, G, gd, rfl, Lib.hid (by simpa using (by refine Hp.sel (by with_reducible repeat (first | exact H7 | apply Hp.alloc | apply Hp.set | apply Hp.drew | apply Hp.drewN | apply Hp.bytesW | exact Upd.here | exact Upd.hereR | apply Upd.there | apply Sz.alloc | apply Sz.set | apply Sz.drew | apply Sz.drewN | apply Sz.bytesW | assumption | exact Sz.base _)) ?_; (try simp only [List.set_cons_zero, List.set_cons_succ]); exact (by with_reducible repeat (first | exact Sel.nil | apply Sel.cons | exact Del.here | apply Del.there))))⟩
          case measure => simp [intOf]; omega
    · have HF : Hid (keepC now cs = ls ∧ keepK now cs ks = qs ∧ goneC now cs = gs ∧ gs.length ≤ 60) := by
        obtain ⟨x1, x2, x3, x4, x5, x6⟩ := HX.out
        have hkk := HKL.out
        rw [List.take_of_length_le (by omega : cs.length ≤ k)] at x1 x2 x3
        rw [List.take_of_length_le (by omega : ks.length ≤ k)] at x2
        exact ⟨x1, x2, x3, by omega⟩
      go_wp2_with fail
      clear HX HP hk hlt F
      have HH := Lib.hid H; clear H
      go_loopw [54] (fun i wr => ∃ k : Nat, k ≤ ds.length ∧ i = .int .i64 k ∧ ∃ es, Hid (keepD gs (ds.take k) = es ∧ es.length ≤ k) ∧ ∃ D dd, Hid (Hp w wr [rCert A d ls, rCertKey A' d' qs, rInt G gd gs, rInt D dd es, box b6 28 [.slice A ls.length d, .slice A' qs.length d', .slice D es.length dd], box (w.heap.size + 1) 28 [.slice none 0 0, .slice none 0 0, .slice none 0 0], box w.heap.size 28 [.slice A0 cs.length c0, .slice A1 ks.length c1, .slice A2 ds.length c2]])) (fun i _ => ds.length - (intOf i).toNat)
      case atStart =>
        have H := HH.out
        exact ⟨0, Nat.zero_le _, rfl, [], ⟨rfl, Nat.le_refl _⟩, none, 0, Lib.hid (Hp.give (Hp.cons_nilRow (by with_reducible repeat (first | exact H | apply Hp.alloc | apply Hp.set | apply Hp.drew | apply Hp.drewN | apply Hp.bytesW | exact Upd.here | exact Upd.hereR | apply Upd.there | apply Sz.alloc | apply Sz.set | apply Sz.drew | apply Sz.drewN | apply Sz.bytesW | assumption | exact Sz.base _)) 3 1) [1, 2, 3, 0, 4, 5, 6] (by decide) (by rfl))⟩
      case round =>
        clear HH
        obtain ⟨k2, hk, rfl, es, HX, D, dd, HP⟩ := hrel
        have H := HP.out
        have F := H.facts; simp only [Facts, NeF, box, row, reg, cellsF, rCert, rCertKey, rInt, ne_eq, true_and, and_true, Nat.reduceAdd, Nat.zero_add] at F
        by_cases hlt : k2 < ds.length
        · obtain ⟨b, off, rfl, hb⟩ := Rd.atC encInt_len hr2 rfl (by omega)
          have hcs : ∀ (W : World) (L : List Ent), Hp w W L → _ := fun W L h => Rd.intAt hr2 rfl (k := k2) hlt W h.b
          have HCS := Lib.hid hcs; clear hcs
          have e0 := HCS.out _ _ H
          obtain ⟨x1, x4⟩ := HX.out
          have hk1 : (k2 : Int) < (ds.length : Int) := by omega
          have hk0 : (0 : Int) ≤ (k2 : Int) := by omega
          have hl3 : es.length + 1 ≤ maxLen := by unfold maxLen; omega
          have hbw : b < wr.heap.size := Nat.lt_of_lt_of_le hb H.b.size
          have hbe : ¬ b = wr.heap.size ∧ ¬ wr.heap.size = b := by omega
          cases hg : hasI gs ds[k2] with
          | true =>
            have HN : Hid (keepD gs (ds.take (k2 + 1)) = es ∧ es.length ≤ k2 + 1) := ⟨by rw [keepD_hit hlt hg, x1], by omega⟩
            generalize ds[k2] = x at *
            clear x1
            go_wp2_with (go_at_call 45; refine (containsInt_any G gs.length gd gs x _ (Hp.rdM (by with_reducible repeat (first | exact H | apply Hp.alloc | apply Hp.set | apply Hp.drew | apply Hp.drewN | apply Hp.bytesW | exact Upd.here | exact Upd.hereR | apply Upd.there | apply Sz.alloc | apply Sz.set | apply Sz.drew | apply Sz.drewN | apply Sz.bytesW | assumption | exact Sz.base _)) (by with_reducible repeat (first | exact List.mem_cons_self | apply List.mem_cons_of_mem))) rfl).mono ?_; rintro e w9 ⟨rfl, hw9⟩; rw [hg, hw9]; clear hw9)
            go_roundw
            case rel => exact ⟨k2 + 1, by omega, by go_num, es, HN, D, dd, Lib.hid (by refine Hp.sel (by with_reducible repeat (first | exact H | apply Hp.alloc | apply Hp.set | apply Hp.drew | apply Hp.drewN | apply Hp.bytesW | exact Upd.here | exact Upd.hereR | apply Upd.there | apply Sz.alloc | apply Sz.set | apply Sz.drew | apply Sz.drewN | apply Sz.bytesW | assumption | exact Sz.base _)) ?_; (try simp only [List.set_cons_zero, List.set_cons_succ]); exact (by with_reducible repeat (first | exact Sel.nil | apply Sel.cons | exact Del.here | apply Del.there)))⟩
            case measure => simp [intOf]; omega
          | false =>
            have HN : Hid (keepD gs (ds.take (k2 + 1)) = es ++ [ds[k2]] ∧ (es ++ [ds[k2]]).length ≤ k2 + 1) := ⟨by rw [keepD_miss hlt hg, x1], by simp; omega⟩
            generalize ds[k2] = x at *
            clear x1
            go_wp2_with (first | (go_at_call 45; refine (containsInt_any G gs.length gd gs x _ (Hp.rdM (by with_reducible repeat (first | exact H | apply Hp.alloc | apply Hp.set | apply Hp.drew | apply Hp.drewN | apply Hp.bytesW | exact Upd.here | exact Upd.hereR | apply Upd.there | apply Sz.alloc | apply Sz.set | apply Sz.drew | apply Sz.drewN | apply Sz.bytesW | assumption | exact Sz.base _)) (by with_reducible repeat (first | exact List.mem_cons_self | apply List.mem_cons_of_mem))) rfl).mono ?_; rintro e w9 ⟨rfl, hw9⟩; rw [hg, hw9]; clear hw9) | (at_builtin; refine wpList_append_lies _ (by rfl) _ _ 26 (by rfl) w.heap.size 3 t0 _ 1 _ Tryz.underlying26 ht0 hx0 hx1 hx2 (by rfl) (by decide) (.slice D (es.length) dd) (es.length) _ (by rfl) (Hp.rowM (by with_reducible repeat (first | exact H | apply Hp.alloc | apply Hp.set | apply Hp.drew | apply Hp.drewN | apply Hp.bytesW | exact Upd.here | exact Upd.hereR | apply Upd.there | apply Sz.alloc | apply Sz.set | apply Sz.drew | apply Sz.drewN | apply Sz.bytesW | assumption | exact Sz.base _)) (by with_reducible repeat (first | exact List.mem_cons_self | apply List.mem_cons_of_mem))) ⟨wr.heap.size, 0, none⟩ 1 1 (encInt x) (by rfl) (by rfl) (Hp.news (by with_reducible repeat (first | exact H | apply Hp.alloc | apply Hp.set | apply Hp.drew | apply Hp.drewN | apply Hp.bytesW | exact Upd.here | exact Upd.hereR | apply Upd.there | apply Sz.alloc | apply Sz.set | apply Sz.drew | apply Sz.drewN | apply Sz.bytesW | assumption | exact Sz.base _)) 0 (by rfl)) (oneInt x) (by decide) hl3 (by omega) (Hp.b (by with_reducible repeat (first | exact H | apply Hp.alloc | apply Hp.set | apply Hp.drew | apply Hp.drewN | apply Hp.bytesW | exact Upd.here | exact Upd.hereR | apply Upd.there | apply Sz.alloc | apply Sz.set | apply Sz.drew | apply Sz.drewN | apply Sz.bytesW | assumption | exact Sz.base _))).size _ rfl ?_; intro g cap wa hown hgrow hat hlt1; have H5 := Hp.appM (by with_reducible repeat (first | exact H | apply Hp.alloc | apply Hp.set | apply Hp.drew | apply Hp.drewN | apply Hp.bytesW | exact Upd.here | exact Upd.hereR | apply Upd.there | apply Sz.alloc | apply Sz.set | apply Sz.drew | apply Sz.drewN | apply Sz.bytesW | assumption | exact Sz.base _)) (by with_reducible repeat (first | exact Rep.here | apply Rep.there)) hown hgrow hat rfl hlt1; (try simp only [List.set_cons_zero, List.set_cons_succ, List.cons_append, List.nil_append] at H5); have FA := H5.facts; simp only [Facts, NeF, box, row, reg, cellsF, rCert, rCertKey, rInt, ne_eq, true_and, and_true, Nat.reduceAdd, Nat.zero_add] at FA))
            all_goals
              rw [rInt_snoc] at H5
              go_wp2_with fail
              go_roundw
              case rel => exact ⟨k2 + 1, by omega, by go_num, es ++ [x], HN, some ⟨g, 0, none⟩, cap, Lib.hid (by simpa using (by refine Hp.sel (by with_reducible repeat (first | exact H5 | apply Hp.alloc | apply Hp.set | apply Hp.drew | apply Hp.drewN | apply Hp.bytesW | exact Upd.here | exact Upd.hereR | apply Upd.there | apply Sz.alloc | apply Sz.set | apply Sz.drew | apply Sz.drewN | apply Sz.bytesW | assumption | exact Sz.base _)) ?_; (try simp only [List.set_cons_zero, List.set_cons_succ]); exact (by with_reducible repeat (first | exact Sel.nil | apply Sel.cons | exact Del.here | apply Del.there))))⟩
              case measure => simp [intOf]; omega
        · have HE : Hid (rp = ⟨ls, qs, es, gs.length⟩) := by
            obtain ⟨f1, f2, f3, f4⟩ := HF.out
            obtain ⟨x1, x4⟩ := HX.out
            rw [List.take_of_length_le (by omega)] at x1
            show _ = _
            rw [← HR.out, f1, f2, f3, x1]
          clear HX HP
          have hre := HE.out
          clear HR
          go_wp2_with fail
          subst hre
          refine bodyPost_ret (v := .tuple #[pileV A ls.length d A' qs.length d' D es.length dd, .int .i64 gs.length]) (by simp [results, Tryz.results16, go_sem, F] <;> omega) rfl ⟨A, d, A', d', D, dd, rfl, (by refine Hp.sel (by with_reducible repeat (first | exact H | apply Hp.alloc | apply Hp.set | apply Hp.drew | apply Hp.drewN | apply Hp.bytesW | exact Upd.here | exact Upd.hereR | apply Upd.there | apply Sz.alloc | apply Sz.set | apply Sz.drew | apply Sz.drewN | apply Sz.bytesW | assumption | exact Sz.base _)) ?_; (try simp only [List.set_cons_zero, List.set_cons_succ]); exact (by with_reducible repeat (first | exact Sel.nil | apply Sel.cons | exact Del.here | apply Del.there)))⟩
end Go.Proofs.YtlblkpcjknjijaaGreatDoor

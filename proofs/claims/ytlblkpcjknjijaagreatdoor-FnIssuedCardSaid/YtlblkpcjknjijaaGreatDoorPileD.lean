/- Piles: copies, where a number stands (the reference's and the program's). No condition. -/
import Derived.Test.YtlblkpcjknjijaaGreatDoorPileB
import Derived.Test.YtlblkpcjknjijaaGreatDoorCwPile
import Derived.Test.YtlblkpcjknjijaaGreatDoorM3
import Derived.Deep.RegionHeldLaw
import Derived.Deep.DeepCutAuto
set_option linter.unusedVariables false
set_option linter.unusedSimpArgs false
namespace Go.Proofs.YtlblkpcjknjijaaGreatDoor
open Go.RowKit
set_option linter.unusedVariables false
set_option linter.unusedSimpArgs false
theorem cloneIntP_any (A : Option Addr) (n c : Nat) (us : List Int) (w : World) (hr : Rd w w.heap.size 1 A n c (us.flatMap encInt)) (hn : us.length = n) (hb20 : n ≤ 1048576) :
    Calls Tryz.prog 58 #[.slice A n c] w fun e w' => ∃ A' c', e = .returned (.slice A' us.length c') ∧ Hp w w' [rInt A' c' us] := by
  subst hn
  have hfm : ∀ zs : List Int, zs.map (Value.int .i64) = zs.flatMap encInt := by
    intro zs; induction zs with
    | nil => rfl
    | cons a l ih => rw [List.map_cons, List.flatMap_cons, ih]; rfl
  have done : ∀ (v' : Value) (w' : World), w'.ownsRow w.heap.size 3 1 v' us.length (us.flatMap encInt) → Below w.heap.size w w' → ∃ A' c', Ending.returned v' = .returned (.slice A' us.length c') ∧ Hp w w' [rInt A' c' us] := by
    intro v' w' h hb
    obtain ⟨A', c', rfl, -, -⟩ := own_rd h
    exact ⟨A', c', rfl, Hp.ofOwn hb (Own.of h) (Nat.le_refl _)⟩
  cases A with
  | none =>
    obtain ⟨h1, h2⟩ := hr.none_nil rfl
    rw [h1]
    refine (Tryz.slices_Clone_int_nil 0 c w).mono ?_
    rintro e w' ⟨rfl, rfl⟩
    refine ⟨none, 0, rfl, ?_⟩
    have h := done (.slice none 0 0) w' (by rw [h1, h2]; exact World.ownsRow_nil _ _ _ _) (Below.refl _ _)
    obtain ⟨A', c', e1, e2⟩ := h
    rw [h1] at e1
    injection e1 with e1
    injection e1 with e3 e4 e5
    subst e3 e5
    exact e2
  | some ad =>
    by_cases h0 : us.length = 0
    · have hu : us = [] := List.eq_nil_of_length_eq_zero h0
      rw [h0]
      refine (Tryz.slices_Clone_int_zero ad c w).mono ?_
      rintro e w' ⟨v', rfl, h2, -, h4⟩
      have h := done v' w' (by rw [h0, hu]; exact h2) h4
      rw [h0] at h; exact h
    · obtain ⟨b, off, e, hb, -⟩ := hr.elem encInt_len rfl (i := 0) (by omega)
      injection e with e
      subst e
      refine (Tryz.slices_Clone_int b off us.length c us w (Nat.le_refl _) (by omega) (fun j hj => by rw [zs_getD hj]; exact Rd.intAt hr rfl hj w (Below.refl _ _))).mono ?_
      rintro e w' ⟨v', rfl, h2, -, h4⟩
      rw [List.take_length, hfm] at h2
      exact done v' w' h2 h4
set_option maxHeartbeats 8000000 in
set_option maxRecDepth 10000 in
theorem clonePile_hp (A0 : Option Addr) (n0 c0 : Nat) (cs : List Cert) (A1 : Option Addr) (n1 c1 : Nat) (ks : List CertKey) (A2 : Option Addr) (n2 c2 : Nat) (ds : List Int) (w : World) (hr0 : Rd w w.heap.size 8 A0 n0 c0 (cs.flatMap encCert)) (hn0 : cs.length = n0) (hb0 : n0 ≤ 1048576) (hr1 : Rd w w.heap.size 2 A1 n1 c1 (ks.flatMap encCertKey)) (hn1 : ks.length = n1) (hb1 : n1 ≤ 1048576) (hr2 : Rd w w.heap.size 1 A2 n2 c2 (ds.flatMap encInt)) (hn2 : ds.length = n2) (hb2 : n2 ≤ 1048576) :
    Calls Tryz.prog 28 #[pileV A0 n0 c0 A1 n1 c1 A2 n2 c2] w fun e w' => ∃ B0 d0 B1 d1 B2 d2, e = .returned (pileV B0 cs.length d0 B1 ks.length d1 B2 ds.length d2) ∧ Hp w w' [rCert B0 d0 cs, rCertKey B1 d1 ks, rInt B2 d2 ds] := by
  subst hn0 hn1 hn2
  have H := Hp.nil w
  go_enter Tryz.func28, Tryz.ntmps28
  go_wp2_with fail
  go_region_held3 (fun w' => w'.cell? ⟨w.heap.size, 0, none⟩ = some (.slice A0 cs.length c0) ∧ w'.cell? ⟨w.heap.size, 1, none⟩ = some (.slice A1 ks.length c1) ∧ w'.cell? ⟨w.heap.size, 2, none⟩ = some (.slice A2 ds.length c2)) (go_keep) (first | (go_at_call 56; refine (cloneCert_any A0 cs.length c0 cs _ (hr0.grow (Hp.b (by repeat (first | (with_reducible exact H) | (with_reducible apply Hp.alloc) | (with_reducible apply Hp.set) | (with_reducible apply Hp.drew) | (with_reducible apply Hp.drewN) | (with_reducible apply Hp.bytesW) | (with_reducible exact Upd.here) | (with_reducible exact Upd.hereR) | (with_reducible apply Upd.there) | (with_reducible apply Sz.alloc) | (with_reducible apply Sz.set) | (with_reducible apply Sz.drew) | (with_reducible apply Sz.drewN) | (with_reducible apply Sz.bytesW) | (with_reducible assumption) | (with_reducible exact Sz.base _))))) rfl hb0).mono ?_; rintro e w1 ⟨B0, d0, rfl, o1, b1⟩; have e1 := Hp.ofOwn b1 o1 (Nat.le_refl _); replace H := Hp.call (by repeat (first | (with_reducible exact H) | (with_reducible apply Hp.alloc) | (with_reducible apply Hp.set) | (with_reducible apply Hp.drew) | (with_reducible apply Hp.drewN) | (with_reducible apply Hp.bytesW) | (with_reducible exact Upd.here) | (with_reducible exact Upd.hereR) | (with_reducible apply Upd.there) | (with_reducible apply Sz.alloc) | (with_reducible apply Sz.set) | (with_reducible apply Sz.drew) | (with_reducible apply Sz.drewN) | (with_reducible apply Sz.bytesW) | (with_reducible assumption) | (with_reducible exact Sz.base _))) e1; (try simp only [List.set_cons_zero, List.set_cons_succ, List.cons_append, List.nil_append] at H); clear e1 o1 b1; have F := H.facts; simp only [Facts, NeF, box, row, reg, cellsF, rCert, rCertKey, rInt, ne_eq, true_and, and_true, Nat.reduceAdd, Nat.zero_add] at F) | (go_at_call 57; refine (cloneCertKey_any A1 ks.length c1 ks _ (hr1.grow (Hp.b (by repeat (first | (with_reducible exact H) | (with_reducible apply Hp.alloc) | (with_reducible apply Hp.set) | (with_reducible apply Hp.drew) | (with_reducible apply Hp.drewN) | (with_reducible apply Hp.bytesW) | (with_reducible exact Upd.here) | (with_reducible exact Upd.hereR) | (with_reducible apply Upd.there) | (with_reducible apply Sz.alloc) | (with_reducible apply Sz.set) | (with_reducible apply Sz.drew) | (with_reducible apply Sz.drewN) | (with_reducible apply Sz.bytesW) | (with_reducible assumption) | (with_reducible exact Sz.base _))))) rfl hb1).mono ?_; rintro e w2 ⟨B1, d1, rfl, o1, b1⟩; have e1 := Hp.ofOwn b1 o1 (Nat.le_refl _); replace H := Hp.call (by repeat (first | (with_reducible exact H) | (with_reducible apply Hp.alloc) | (with_reducible apply Hp.set) | (with_reducible apply Hp.drew) | (with_reducible apply Hp.drewN) | (with_reducible apply Hp.bytesW) | (with_reducible exact Upd.here) | (with_reducible exact Upd.hereR) | (with_reducible apply Upd.there) | (with_reducible apply Sz.alloc) | (with_reducible apply Sz.set) | (with_reducible apply Sz.drew) | (with_reducible apply Sz.drewN) | (with_reducible apply Sz.bytesW) | (with_reducible assumption) | (with_reducible exact Sz.base _))) e1; (try simp only [List.set_cons_zero, List.set_cons_succ, List.cons_append, List.nil_append] at H); clear e1 o1 b1 F; have F := H.facts; simp only [Facts, NeF, box, row, reg, cellsF, rCert, rCertKey, rInt, ne_eq, true_and, and_true, Nat.reduceAdd, Nat.zero_add] at F) | (go_at_call 58; refine (cloneIntP_any A2 ds.length c2 ds _ (hr2.grow (Hp.b (by repeat (first | (with_reducible exact H) | (with_reducible apply Hp.alloc) | (with_reducible apply Hp.set) | (with_reducible apply Hp.drew) | (with_reducible apply Hp.drewN) | (with_reducible apply Hp.bytesW) | (with_reducible exact Upd.here) | (with_reducible exact Upd.hereR) | (with_reducible apply Upd.there) | (with_reducible apply Sz.alloc) | (with_reducible apply Sz.set) | (with_reducible apply Sz.drew) | (with_reducible apply Sz.drewN) | (with_reducible apply Sz.bytesW) | (with_reducible assumption) | (with_reducible exact Sz.base _))))) rfl hb2).mono ?_; rintro e w3 ⟨B2, d2, rfl, e1⟩; replace H := Hp.call (by repeat (first | (with_reducible exact H) | (with_reducible apply Hp.alloc) | (with_reducible apply Hp.set) | (with_reducible apply Hp.drew) | (with_reducible apply Hp.drewN) | (with_reducible apply Hp.bytesW) | (with_reducible exact Upd.here) | (with_reducible exact Upd.hereR) | (with_reducible apply Upd.there) | (with_reducible apply Sz.alloc) | (with_reducible apply Sz.set) | (with_reducible apply Sz.drew) | (with_reducible apply Sz.drewN) | (with_reducible apply Sz.bytesW) | (with_reducible assumption) | (with_reducible exact Sz.base _))) e1; (try simp only [List.set_cons_zero, List.set_cons_succ, List.cons_append, List.nil_append] at H); clear e1 F; have F := H.facts; simp only [Facts, NeF, box, row, reg, cellsF, rCert, rCertKey, rInt, ne_eq, true_and, and_true, Nat.reduceAdd, Nat.zero_add] at F))
  go_wp2_with fail
  refine bodyPost_ret (v := pileV B0 cs.length d0 B1 ks.length d1 B2 ds.length d2) (by simp [results, Tryz.results28, go_sem, F] <;> omega) rfl ⟨B0, d0, B1, d1, B2, d2, rfl, (by refine Hp.sel (by repeat (first | (with_reducible exact H) | (with_reducible apply Hp.alloc) | (with_reducible apply Hp.set) | (with_reducible apply Hp.drew) | (with_reducible apply Hp.drewN) | (with_reducible apply Hp.bytesW) | (with_reducible exact Upd.here) | (with_reducible exact Upd.hereR) | (with_reducible apply Upd.there) | (with_reducible apply Sz.alloc) | (with_reducible apply Sz.set) | (with_reducible apply Sz.drew) | (with_reducible apply Sz.drewN) | (with_reducible apply Sz.bytesW) | (with_reducible assumption) | (with_reducible exact Sz.base _))) ?_; (try simp only [List.set_cons_zero, List.set_cons_succ]); exact (by repeat (first | (with_reducible exact Sel.nil) | (with_reducible apply Sel.cons) | (with_reducible exact Del.here) | (with_reducible apply Del.there))))⟩
set_option maxHeartbeats 16000000 in
set_option maxRecDepth 10000 in
theorem l12Copy_hp (A0 : Option Addr) (n0 c0 : Nat) (cs : List Cert) (A1 : Option Addr) (n1 c1 : Nat) (ks : List CertKey) (A2 : Option Addr) (n2 c2 : Nat) (ds : List Int) (w : World) (hr0 : Rd w w.heap.size 8 A0 n0 c0 (cs.flatMap encCert)) (hn0 : cs.length = n0) (hb0 : n0 ≤ 1048576) (hr1 : Rd w w.heap.size 2 A1 n1 c1 (ks.flatMap encCertKey)) (hn1 : ks.length = n1) (hb1 : n1 ≤ 1048576) (hr2 : Rd w w.heap.size 1 A2 n2 c2 (ds.flatMap encInt)) (hn2 : ds.length = n2) (hb2 : n2 ≤ 1048576) :
    Calls Tryz.prog 24 #[pileV A0 n0 c0 A1 n1 c1 A2 n2 c2] w fun e w' => ∃ B0 d0 B1 d1 B2 d2, e = .returned (pileV B0 cs.length d0 B1 ks.length d1 B2 ds.length d2) ∧ Hp w w' [rCert B0 d0 cs, rCertKey B1 d1 ks, rInt B2 d2 ds] := by
  subst hn0 hn1 hn2
  obtain ⟨i0, hi0, hz0, hz1, hz2⟩ := info_parts Tryz.infoCert
  obtain ⟨j0, hj0, hy0, hy1, hy2⟩ := info_parts Tryz.infoCertKey
  have hc0 := hr0.2.1
  have hm0 := hr0.2.2.1
  have hc1 := hr1.2.1
  have hm1 := hr1.2.2.1
  unfold maxLen at hm0 hm1
  have H := Hp.nil w
  go_enter Tryz.func24, Tryz.ntmps24
  go_wp2_with (go_at_call 27; refine (l01Copy_hp A2 ds.length c2 ds _ (hr2.grow (Hp.b (by repeat (first | (with_reducible exact H) | (with_reducible apply Hp.alloc) | (with_reducible apply Hp.set) | (with_reducible apply Hp.drew) | (with_reducible apply Hp.drewN) | (with_reducible apply Hp.bytesW) | (with_reducible exact Upd.here) | (with_reducible exact Upd.hereR) | (with_reducible apply Upd.there) | (with_reducible apply Sz.alloc) | (with_reducible apply Sz.set) | (with_reducible apply Sz.drew) | (with_reducible apply Sz.drewN) | (with_reducible apply Sz.bytesW) | (with_reducible assumption) | (with_reducible exact Sz.base _))))) rfl hb2).mono ?_; rintro e w1 ⟨B2, d2, rfl, e1⟩; replace H := Hp.call (by repeat (first | (with_reducible exact H) | (with_reducible apply Hp.alloc) | (with_reducible apply Hp.set) | (with_reducible apply Hp.drew) | (with_reducible apply Hp.drewN) | (with_reducible apply Hp.bytesW) | (with_reducible exact Upd.here) | (with_reducible exact Upd.hereR) | (with_reducible apply Upd.there) | (with_reducible apply Sz.alloc) | (with_reducible apply Sz.set) | (with_reducible apply Sz.drew) | (with_reducible apply Sz.drewN) | (with_reducible apply Sz.bytesW) | (with_reducible assumption) | (with_reducible exact Sz.base _))) e1; (try simp only [List.set_cons_zero, List.set_cons_succ, List.cons_append, List.nil_append] at H); clear e1; have F := H.facts; simp only [Facts, NeF, box, row, reg, cellsF, rCert, rCertKey, rInt, ne_eq, true_and, and_true, Nat.reduceAdd, Nat.zero_add] at F)
  clear F
  generalize hB6 : w1.heap.size = b6 at *
  have HS6 : Sz w1 b6 := hB6
  clear hB6
  have HH := Lib.hid H; clear H
  go_loopw [4] (fun i wr => ∃ k : Nat, k ≤ cs.length ∧ i = .int .i64 k ∧ ∃ A d, Hid (Hp w wr [rCert A d (cs.take k), rInt B2 d2 ds, box b6 28 [.slice A (cs.take k).length d, .slice none 0 0, .slice B2 ds.length d2], box (w.heap.size + 1) 28 [.slice none 0 0, .slice none 0 0, .slice none 0 0], box w.heap.size 28 [.slice A0 cs.length c0, .slice A1 ks.length c1, .slice A2 ds.length c2]])) (fun i _ => cs.length - (intOf i).toNat)
  case atStart =>
    have H := HH.out
    exact ⟨0, Nat.zero_le _, rfl, none, 0, Lib.hid (Hp.give (Hp.cons_nilRow (by repeat (first | (with_reducible exact H) | (with_reducible apply Hp.alloc) | (with_reducible apply Hp.set) | (with_reducible apply Hp.drew) | (with_reducible apply Hp.drewN) | (with_reducible apply Hp.bytesW) | (with_reducible exact Upd.here) | (with_reducible exact Upd.hereR) | (with_reducible apply Upd.there) | (with_reducible apply Sz.alloc) | (with_reducible apply Sz.set) | (with_reducible apply Sz.drew) | (with_reducible apply Sz.drewN) | (with_reducible apply Sz.bytesW) | (with_reducible assumption) | (with_reducible exact Sz.base _))) 30 8) [0, 2, 1, 3, 4] (by decide) (by rfl))⟩
  case round =>
    clear HH HS6
    obtain ⟨k, hk, rfl, A, d, HP⟩ := hrel
    have H := HP.out
    have htl : (cs.take k).length = k := by rw [List.length_take]; omega
    by_cases hlt : k < cs.length
    · obtain ⟨b, off, rfl, hb⟩ := Rd.atC encCert_len hr0 rfl (by omega)
      have hcs : ∀ (W : World) (L : List Ent), Hp w W L → _ := fun W L h => Rd.certAt hr0 rfl (k := k) hlt rfl W h.b
      have HCS := Lib.hid hcs; clear hcs
      obtain ⟨e0, e1, e2, e3, e4, e5, e6, e7⟩ := HCS.out _ _ H
      have HT := Lib.hid (List.take_succ_eq_append_getElem hlt)
      generalize cs[k] = u at *
      generalize cs.take k = ls at *
      subst htl
      have F := H.facts; simp only [Facts, NeF, box, row, reg, cellsF, rCert, rCertKey, rInt, ne_eq, true_and, and_true, Nat.reduceAdd, Nat.zero_add] at F
      have hk1 : (ls.length : Int) < (cs.length : Int) := by omega
      have hk0 : (0 : Int) ≤ (ls.length : Int) := by omega
      have hl : ls.length + 1 ≤ maxLen := by unfold maxLen; omega
      have hbw : b < wr.heap.size := Nat.lt_of_lt_of_le hb H.b.size
      have hbe : ¬ b = wr.heap.size ∧ ¬ wr.heap.size = b := by omega
      go_wp2_with fail
      go_region_law (first | (refine step_append_lies _ (by rfl) _ _ 24 (by rfl) w.heap.size 30 i0 _ 8 _ Tryz.underlying24 hi0 hz0 hz1 hz2 (by rfl) (by decide) (.slice A (ls.length) d) (ls.length) _ (by rfl) (Hp.rowM (by repeat (first | (with_reducible exact H) | (with_reducible apply Hp.alloc) | (with_reducible apply Hp.set) | (with_reducible apply Hp.drew) | (with_reducible apply Hp.drewN) | (with_reducible apply Hp.bytesW) | (with_reducible exact Upd.here) | (with_reducible exact Upd.hereR) | (with_reducible apply Upd.there) | (with_reducible apply Sz.alloc) | (with_reducible apply Sz.set) | (with_reducible apply Sz.drew) | (with_reducible apply Sz.drewN) | (with_reducible apply Sz.bytesW) | (with_reducible assumption) | (with_reducible exact Sz.base _))) (by repeat (first | (with_reducible exact List.mem_cons_self) | (with_reducible apply List.mem_cons_of_mem)))) ⟨wr.heap.size, 0, none⟩ 1 1 (encCert u) (by rfl) (by rfl) (Hp.news (by repeat (first | (with_reducible exact H) | (with_reducible apply Hp.alloc) | (with_reducible apply Hp.set) | (with_reducible apply Hp.drew) | (with_reducible apply Hp.drewN) | (with_reducible apply Hp.bytesW) | (with_reducible exact Upd.here) | (with_reducible exact Upd.hereR) | (with_reducible apply Upd.there) | (with_reducible apply Sz.alloc) | (with_reducible apply Sz.set) | (with_reducible apply Sz.drew) | (with_reducible apply Sz.drewN) | (with_reducible apply Sz.bytesW) | (with_reducible assumption) | (with_reducible exact Sz.base _))) 0 (by rfl)) (oneCert u) (by decide) hl (by omega) (Hp.b (by repeat (first | (with_reducible exact H) | (with_reducible apply Hp.alloc) | (with_reducible apply Hp.set) | (with_reducible apply Hp.drew) | (with_reducible apply Hp.drewN) | (with_reducible apply Hp.bytesW) | (with_reducible exact Upd.here) | (with_reducible exact Upd.hereR) | (with_reducible apply Upd.there) | (with_reducible apply Sz.alloc) | (with_reducible apply Sz.set) | (with_reducible apply Sz.drew) | (with_reducible apply Sz.drewN) | (with_reducible apply Sz.bytesW) | (with_reducible assumption) | (with_reducible exact Sz.base _)))).size _ rfl ?_; intro g cap wa hown hgrow hat hlt1; have H5 := Hp.appM (by repeat (first | (with_reducible exact H) | (with_reducible apply Hp.alloc) | (with_reducible apply Hp.set) | (with_reducible apply Hp.drew) | (with_reducible apply Hp.drewN) | (with_reducible apply Hp.bytesW) | (with_reducible exact Upd.here) | (with_reducible exact Upd.hereR) | (with_reducible apply Upd.there) | (with_reducible apply Sz.alloc) | (with_reducible apply Sz.set) | (with_reducible apply Sz.drew) | (with_reducible apply Sz.drewN) | (with_reducible apply Sz.bytesW) | (with_reducible assumption) | (with_reducible exact Sz.base _))) (by repeat (first | (with_reducible exact Rep.here) | (with_reducible apply Rep.there))) hown hgrow hat rfl hlt1; (try simp only [List.set_cons_zero, List.set_cons_succ, List.cons_append, List.nil_append] at H5); have FA := H5.facts; simp only [Facts, NeF, box, row, reg, cellsF, rCert, rCertKey, rInt, ne_eq, true_and, and_true, Nat.reduceAdd, Nat.zero_add] at FA))
      all_goals
        rw [rCert_snoc] at H5
        go_wp2_with fail
        go_roundw
        case rel => exact ⟨ls.length + 1, by omega, by go_num, some ⟨g, 0, none⟩, cap, by rw [HT.out]; exact Lib.hid (by simpa using (by refine Hp.sel (by repeat (first | (with_reducible exact H5) | (with_reducible apply Hp.alloc) | (with_reducible apply Hp.set) | (with_reducible apply Hp.drew) | (with_reducible apply Hp.drewN) | (with_reducible apply Hp.bytesW) | (with_reducible exact Upd.here) | (with_reducible exact Upd.hereR) | (with_reducible apply Upd.there) | (with_reducible apply Sz.alloc) | (with_reducible apply Sz.set) | (with_reducible apply Sz.drew) | (with_reducible apply Sz.drewN) | (with_reducible apply Sz.bytesW) | (with_reducible assumption) | (with_reducible exact Sz.base _))) ?_; (try simp only [List.set_cons_zero, List.set_cons_succ]); exact (by repeat (first | (with_reducible exact Sel.nil) | (with_reducible apply Sel.cons) | (with_reducible exact Del.here) | (with_reducible apply Del.there)))))⟩
        case measure => simp [intOf]; omega
    · have HF : Hid (cs.take k = cs) := by show _ = _; exact List.take_of_length_le (by omega)
      rw [HF.out] at H
      clear HF HP htl
      have F := H.facts; simp only [Facts, NeF, box, row, reg, cellsF, rCert, rCertKey, rInt, ne_eq, true_and, and_true, Nat.reduceAdd, Nat.zero_add] at F
      go_wp2_with fail
      clear F
      have HH := Lib.hid H; clear H
      clear hlt hk
      go_loopw [5] (fun i wr => ∃ k : Nat, k ≤ ks.length ∧ i = .int .i64 k ∧ ∃ A' d', Hid (Hp w wr [rCertKey A' d' (ks.take k), rCert A d cs, rInt B2 d2 ds, box b6 28 [.slice A cs.length d, .slice A' (ks.take k).length d', .slice B2 ds.length d2], box (w.heap.size + 1) 28 [.slice none 0 0, .slice none 0 0, .slice none 0 0], box w.heap.size 28 [.slice A0 cs.length c0, .slice A1 ks.length c1, .slice A2 ds.length c2]])) (fun i _ => ks.length - (intOf i).toNat)
      case atStart =>
        have H := HH.out
        exact ⟨0, Nat.zero_le _, rfl, none, 0, Lib.hid (Hp.give (Hp.cons_nilRow (by repeat (first | (with_reducible exact H) | (with_reducible apply Hp.alloc) | (with_reducible apply Hp.set) | (with_reducible apply Hp.drew) | (with_reducible apply Hp.drewN) | (with_reducible apply Hp.bytesW) | (with_reducible exact Upd.here) | (with_reducible exact Upd.hereR) | (with_reducible apply Upd.there) | (with_reducible apply Sz.alloc) | (with_reducible apply Sz.set) | (with_reducible apply Sz.drew) | (with_reducible apply Sz.drewN) | (with_reducible apply Sz.bytesW) | (with_reducible assumption) | (with_reducible exact Sz.base _))) 57 2) [0, 1, 2, 3, 4, 5] (by decide) (by rfl))⟩
      case round =>
        clear HH
        obtain ⟨k2, hk, rfl, A', d', HP⟩ := hrel
        have H := HP.out
        have htl : (ks.take k2).length = k2 := by rw [List.length_take]; omega
        by_cases hlt : k2 < ks.length
        · obtain ⟨b, off, rfl, hb⟩ := Rd.atC encCertKey_len hr1 rfl (by omega)
          have hcs : ∀ (W : World) (L : List Ent), Hp w W L → _ := fun W L h => Rd.keyAt hr1 rfl (k := k2) hlt rfl W h.b
          have HCS := Lib.hid hcs; clear hcs
          obtain ⟨e0, e1⟩ := HCS.out _ _ H
          have HT := Lib.hid (List.take_succ_eq_append_getElem hlt)
          generalize ks[k2] = u at *
          generalize ks.take k2 = ls at *
          subst htl
          have F := H.facts; simp only [Facts, NeF, box, row, reg, cellsF, rCert, rCertKey, rInt, ne_eq, true_and, and_true, Nat.reduceAdd, Nat.zero_add] at F
          have hk1 : (ls.length : Int) < (ks.length : Int) := by omega
          have hk0 : (0 : Int) ≤ (ls.length : Int) := by omega
          have hl : ls.length + 1 ≤ maxLen := by unfold maxLen; omega
          have hbw : b < wr.heap.size := Nat.lt_of_lt_of_le hb H.b.size
          have hbe : ¬ b = wr.heap.size ∧ ¬ wr.heap.size = b := by omega
          go_wp2_with fail
          go_region_law (first | (refine step_append_lies _ (by rfl) _ _ 25 (by rfl) w.heap.size 57 j0 _ 2 _ Tryz.underlying25 hj0 hy0 hy1 hy2 (by rfl) (by decide) (.slice A' (ls.length) d') (ls.length) _ (by rfl) (Hp.rowM (by repeat (first | (with_reducible exact H) | (with_reducible apply Hp.alloc) | (with_reducible apply Hp.set) | (with_reducible apply Hp.drew) | (with_reducible apply Hp.drewN) | (with_reducible apply Hp.bytesW) | (with_reducible exact Upd.here) | (with_reducible exact Upd.hereR) | (with_reducible apply Upd.there) | (with_reducible apply Sz.alloc) | (with_reducible apply Sz.set) | (with_reducible apply Sz.drew) | (with_reducible apply Sz.drewN) | (with_reducible apply Sz.bytesW) | (with_reducible assumption) | (with_reducible exact Sz.base _))) (by repeat (first | (with_reducible exact List.mem_cons_self) | (with_reducible apply List.mem_cons_of_mem)))) ⟨wr.heap.size, 0, none⟩ 1 1 (encCertKey u) (by rfl) (by rfl) (Hp.news (by repeat (first | (with_reducible exact H) | (with_reducible apply Hp.alloc) | (with_reducible apply Hp.set) | (with_reducible apply Hp.drew) | (with_reducible apply Hp.drewN) | (with_reducible apply Hp.bytesW) | (with_reducible exact Upd.here) | (with_reducible exact Upd.hereR) | (with_reducible apply Upd.there) | (with_reducible apply Sz.alloc) | (with_reducible apply Sz.set) | (with_reducible apply Sz.drew) | (with_reducible apply Sz.drewN) | (with_reducible apply Sz.bytesW) | (with_reducible assumption) | (with_reducible exact Sz.base _))) 0 (by rfl)) (oneCertKey u) (by decide) hl (by omega) (Hp.b (by repeat (first | (with_reducible exact H) | (with_reducible apply Hp.alloc) | (with_reducible apply Hp.set) | (with_reducible apply Hp.drew) | (with_reducible apply Hp.drewN) | (with_reducible apply Hp.bytesW) | (with_reducible exact Upd.here) | (with_reducible exact Upd.hereR) | (with_reducible apply Upd.there) | (with_reducible apply Sz.alloc) | (with_reducible apply Sz.set) | (with_reducible apply Sz.drew) | (with_reducible apply Sz.drewN) | (with_reducible apply Sz.bytesW) | (with_reducible assumption) | (with_reducible exact Sz.base _)))).size _ rfl ?_; intro g cap wa hown hgrow hat hlt1; have H5 := Hp.appM (by repeat (first | (with_reducible exact H) | (with_reducible apply Hp.alloc) | (with_reducible apply Hp.set) | (with_reducible apply Hp.drew) | (with_reducible apply Hp.drewN) | (with_reducible apply Hp.bytesW) | (with_reducible exact Upd.here) | (with_reducible exact Upd.hereR) | (with_reducible apply Upd.there) | (with_reducible apply Sz.alloc) | (with_reducible apply Sz.set) | (with_reducible apply Sz.drew) | (with_reducible apply Sz.drewN) | (with_reducible apply Sz.bytesW) | (with_reducible assumption) | (with_reducible exact Sz.base _))) (by repeat (first | (with_reducible exact Rep.here) | (with_reducible apply Rep.there))) hown hgrow hat rfl hlt1; (try simp only [List.set_cons_zero, List.set_cons_succ, List.cons_append, List.nil_append] at H5); have FA := H5.facts; simp only [Facts, NeF, box, row, reg, cellsF, rCert, rCertKey, rInt, ne_eq, true_and, and_true, Nat.reduceAdd, Nat.zero_add] at FA))
          all_goals
            rw [rCertKey_snoc] at H5
            go_wp2_with fail
            go_roundw
            case rel => exact ⟨ls.length + 1, by omega, by go_num, some ⟨g, 0, none⟩, cap, by rw [HT.out]; exact Lib.hid (by simpa using (by refine Hp.sel (by repeat (first | (with_reducible exact H5) | (with_reducible apply Hp.alloc) | (with_reducible apply Hp.set) | (with_reducible apply Hp.drew) | (with_reducible apply Hp.drewN) | (with_reducible apply Hp.bytesW) | (with_reducible exact Upd.here) | (with_reducible exact Upd.hereR) | (with_reducible apply Upd.there) | (with_reducible apply Sz.alloc) | (with_reducible apply Sz.set) | (with_reducible apply Sz.drew) | (with_reducible apply Sz.drewN) | (with_reducible apply Sz.bytesW) | (with_reducible assumption) | (with_reducible exact Sz.base _))) ?_; (try simp only [List.set_cons_zero, List.set_cons_succ]); exact (by repeat (first | (with_reducible exact Sel.nil) | (with_reducible apply Sel.cons) | (with_reducible exact Del.here) | (with_reducible apply Del.there)))))⟩
            case measure => simp [intOf]; omega
        · have HF : Hid (ks.take k2 = ks) := by show _ = _; exact List.take_of_length_le (by omega)
          rw [HF.out] at H
          clear HF HP htl
          have F := H.facts; simp only [Facts, NeF, box, row, reg, cellsF, rCert, rCertKey, rInt, ne_eq, true_and, and_true, Nat.reduceAdd, Nat.zero_add] at F
          go_wp2_with fail
          refine bodyPost_ret (v := pileV A cs.length d A' ks.length d' B2 ds.length d2) (by simp [results, Tryz.results24, go_sem, F] <;> omega) rfl ⟨A, d, A', d', B2, d2, rfl, (by refine Hp.sel (by repeat (first | (with_reducible exact H) | (with_reducible apply Hp.alloc) | (with_reducible apply Hp.set) | (with_reducible apply Hp.drew) | (with_reducible apply Hp.drewN) | (with_reducible apply Hp.bytesW) | (with_reducible exact Upd.here) | (with_reducible exact Upd.hereR) | (with_reducible apply Upd.there) | (with_reducible apply Sz.alloc) | (with_reducible apply Sz.set) | (with_reducible apply Sz.drew) | (with_reducible apply Sz.drewN) | (with_reducible apply Sz.bytesW) | (with_reducible assumption) | (with_reducible exact Sz.base _))) ?_; (try simp only [List.set_cons_zero, List.set_cons_succ]); exact (by repeat (first | (with_reducible exact Sel.nil) | (with_reducible apply Sel.cons) | (with_reducible exact Del.here) | (with_reducible apply Del.there))))⟩
set_option maxHeartbeats 4000000 in
set_option maxRecDepth 10000 in
theorem l12At_any (A0 : Option Addr) (n0 c0 : Nat) (cs : List Cert) (A1 : Option Addr) (n1 c1 : Nat) (A2 : Option Addr) (n2 c2 : Nat) (x : Int) (w : World) (hr0 : Rd w w.heap.size 8 A0 n0 c0 (cs.flatMap encCert)) (hn0 : cs.length = n0) :
    Calls Tryz.prog 23 #[pileV A0 n0 c0 A1 n1 c1 A2 n2 c2, .int .i64 x] w fun e w' => e = .returned (.int .i64 (ixP (hasSer x) cs 0)) ∧ Below w.heap.size w w' := by
  have hc := hr0.2.1
  have hm := hr0.2.2.1
  unfold maxLen at hm
  have H := Hp.nil w
  go_enter Tryz.func23, Tryz.ntmps23
  go_wp2_with fail
  have HH := Lib.hid H; clear H
  go_loopw [5] (fun i wr => ∃ k : Nat, k ≤ n0 ∧ i = .int .i64 k ∧ Hid (ixP (hasSer x) cs 0 = ixP (hasSer x) (cs.drop k) k) ∧ Hid (Hp w wr [box w.heap.size 28 [.slice A0 n0 c0, .slice A1 n1 c1, .slice A2 n2 c2]])) (fun i _ => n0 - (intOf i).toNat)
  case atStart =>
    have H := HH.out
    exact ⟨0, Nat.zero_le _, rfl, rfl, Lib.hid (by repeat (first | (with_reducible exact H) | (with_reducible apply Hp.alloc) | (with_reducible apply Hp.set) | (with_reducible apply Hp.drew) | (with_reducible apply Hp.drewN) | (with_reducible apply Hp.bytesW) | (with_reducible exact Upd.here) | (with_reducible exact Upd.hereR) | (with_reducible apply Upd.there) | (with_reducible apply Sz.alloc) | (with_reducible apply Sz.set) | (with_reducible apply Sz.drew) | (with_reducible apply Sz.drewN) | (with_reducible apply Sz.bytesW) | (with_reducible assumption) | (with_reducible exact Sz.base _)))⟩
  case round =>
    clear HH
    obtain ⟨k, hk, rfl, HR, HP⟩ := hrel
    have H := HP.out
    have F := H.facts; simp only [Facts, NeF, box, row, reg, cellsF, rCert, rCertKey, rInt, ne_eq, true_and, and_true, Nat.reduceAdd, Nat.zero_add] at F
    by_cases hlt : k < n0
    · obtain ⟨b, off, rfl, hb⟩ := Rd.atC encCert_len hr0 hn0 (by omega)
      have e0 := (Rd.certAt hr0 hn0 (k := k) (by omega) rfl wr H.b).1
      have hk1 : (k : Int) < (n0 : Int) := by omega
      have hk0 : (0 : Int) ≤ (k : Int) := by omega
      have hbw : b < wr.heap.size := Nat.lt_of_lt_of_le hb H.b.size
      have hbe : ¬ b = w.heap.size ∧ ¬ w.heap.size = b := by omega
      by_cases h : (cs[k]'(by omega)).ser = x
      · have HN : Hid (ixP (hasSer x) cs 0 = (k : Int)) := by show _ = _; rw [HR.out, ixP_hit (by omega) (by simp [hasSer, h])]
        generalize (cs[k]'(by omega)) = u at *
        go_wp2_with fail
        go_ret
        exact ⟨by rw [HN.out]; rfl, Hp.b (by repeat (first | (with_reducible exact H) | (with_reducible apply Hp.alloc) | (with_reducible apply Hp.set) | (with_reducible apply Hp.drew) | (with_reducible apply Hp.drewN) | (with_reducible apply Hp.bytesW) | (with_reducible exact Upd.here) | (with_reducible exact Upd.hereR) | (with_reducible apply Upd.there) | (with_reducible apply Sz.alloc) | (with_reducible apply Sz.set) | (with_reducible apply Sz.drew) | (with_reducible apply Sz.drewN) | (with_reducible apply Sz.bytesW) | (with_reducible assumption) | (with_reducible exact Sz.base _)))⟩
      · have HN : Hid (ixP (hasSer x) cs 0 = ixP (hasSer x) (cs.drop (k + 1)) (k + 1)) := by show _ = _; rw [HR.out, ixP_skip (by omega) (by simp [hasSer, h])]
        generalize (cs[k]'(by omega)) = u at *
        go_wp2_with fail
        go_roundw
        case rel => exact ⟨k + 1, by omega, by go_num, HN, Lib.hid (by refine Hp.sel (by repeat (first | (with_reducible exact H) | (with_reducible apply Hp.alloc) | (with_reducible apply Hp.set) | (with_reducible apply Hp.drew) | (with_reducible apply Hp.drewN) | (with_reducible apply Hp.bytesW) | (with_reducible exact Upd.here) | (with_reducible exact Upd.hereR) | (with_reducible apply Upd.there) | (with_reducible apply Sz.alloc) | (with_reducible apply Sz.set) | (with_reducible apply Sz.drew) | (with_reducible apply Sz.drewN) | (with_reducible apply Sz.bytesW) | (with_reducible assumption) | (with_reducible exact Sz.base _))) ?_; (try simp only [List.set_cons_zero, List.set_cons_succ]); exact (by repeat (first | (with_reducible exact Sel.nil) | (with_reducible apply Sel.cons) | (with_reducible exact Del.here) | (with_reducible apply Del.there))))⟩
        case measure => simp [intOf]; omega
    · have HF : Hid (ixP (hasSer x) cs 0 = -1) := by show _ = _; rw [HR.out, List.drop_eq_nil_of_le (by omega)]; rfl
      go_wp2_with fail
      go_ret
      exact ⟨by rw [HF.out]; rfl, Hp.b (by repeat (first | (with_reducible exact H) | (with_reducible apply Hp.alloc) | (with_reducible apply Hp.set) | (with_reducible apply Hp.drew) | (with_reducible apply Hp.drewN) | (with_reducible apply Hp.bytesW) | (with_reducible exact Upd.here) | (with_reducible exact Upd.hereR) | (with_reducible apply Upd.there) | (with_reducible apply Sz.alloc) | (with_reducible apply Sz.set) | (with_reducible apply Sz.drew) | (with_reducible apply Sz.drewN) | (with_reducible apply Sz.bytesW) | (with_reducible assumption) | (with_reducible exact Sz.base _)))⟩
def cfSer (x : Int) (c : Cert) : Int := Go.Lib.compareInt c.ser x
theorem certIndex1_any (c : Cert) (x : Int) (w : World) :
    Calls Tryz.prog 62 #[.agg #[.int .i64 c.ser, .string c.owner, .int .i64 c.iss, .int .i64 c.from_, .int .i64 c.to_, .bool c.ca, .int .i64 c.depth, .int .i64 c.mark], .int .i64 x] w fun e w' => e = .returned (.int .i64 (cfSer x c)) ∧ Below w.heap.size w w' := by
  have H := Hp.nil w
  go_enter Tryz.func62, Tryz.ntmps62
  go_wp2_with (go_at_call 63; refine (Tryz.cmp_Compare_int _ _ _).mono ?_; rintro e w1 ⟨rfl, rfl⟩)
  go_ret
  exact ⟨rfl, Hp.b (by repeat (first | (with_reducible exact H) | (with_reducible apply Hp.alloc) | (with_reducible apply Hp.set) | (with_reducible apply Hp.drew) | (with_reducible apply Hp.drewN) | (with_reducible apply Hp.bytesW) | (with_reducible exact Upd.here) | (with_reducible exact Upd.hereR) | (with_reducible apply Upd.there) | (with_reducible apply Sz.alloc) | (with_reducible apply Sz.set) | (with_reducible apply Sz.drew) | (with_reducible apply Sz.drewN) | (with_reducible apply Sz.bytesW) | (with_reducible assumption) | (with_reducible exact Sz.base _)))⟩
set_option maxHeartbeats 4000000 in
set_option maxRecDepth 10000 in
theorem certIndex_any (A0 : Option Addr) (n0 c0 : Nat) (cs : List Cert) (A1 : Option Addr) (n1 c1 : Nat) (A2 : Option Addr) (n2 c2 : Nat) (x : Int) (w : World) (hr0 : Rd w w.heap.size 8 A0 n0 c0 (cs.flatMap encCert)) (hn0 : cs.length = n0) (hb0 : n0 ≤ 1048576)
    (hmono : ∀ a b (hb : b < cs.length) (hab : a ≤ b), cfSer x cs[b] < 0 → cfSer x (cs[a]'(by omega)) < 0) :
    Calls Tryz.prog 32 #[pileV A0 n0 c0 A1 n1 c1 A2 n2 c2, .int .i64 x] w fun e w' => e = .returned (.tuple #[.int .i64 (bsAt (cfSer x) cs : Nat), .bool (bsHit (cfSer x) cs)]) ∧ Below w.heap.size w w' := by
  have eg := enters_of (P := Tryz.prog) Tryz.func62 (by kernel_rfl) rfl
  have H := Hp.nil w
  have HM := Lib.hid hmono; clear hmono
  go_enter Tryz.func32, Tryz.ntmps32
  go_wp2_with (go_at_call 61; refine (bsCert_any 62 #[] x (cfSer x) eg A0 n0 c0 cs _ (fun W u _ => certIndex1_any u x W) (hr0.grow (Hp.b (by repeat (first | (with_reducible exact H) | (with_reducible apply Hp.alloc) | (with_reducible apply Hp.set) | (with_reducible apply Hp.drew) | (with_reducible apply Hp.drewN) | (with_reducible apply Hp.bytesW) | (with_reducible exact Upd.here) | (with_reducible exact Upd.hereR) | (with_reducible apply Upd.there) | (with_reducible apply Sz.alloc) | (with_reducible apply Sz.set) | (with_reducible apply Sz.drew) | (with_reducible apply Sz.drewN) | (with_reducible apply Sz.bytesW) | (with_reducible assumption) | (with_reducible exact Sz.base _))))) hn0 hb0 HM.out).mono ?_; rintro e w1 ⟨rfl, hb1⟩; replace H := Hp.step (by repeat (first | (with_reducible exact H) | (with_reducible apply Hp.alloc) | (with_reducible apply Hp.set) | (with_reducible apply Hp.drew) | (with_reducible apply Hp.drewN) | (with_reducible apply Hp.bytesW) | (with_reducible exact Upd.here) | (with_reducible exact Upd.hereR) | (with_reducible apply Upd.there) | (with_reducible apply Sz.alloc) | (with_reducible apply Sz.set) | (with_reducible apply Sz.drew) | (with_reducible apply Sz.drewN) | (with_reducible apply Sz.bytesW) | (with_reducible assumption) | (with_reducible exact Sz.base _))) hb1; (try simp only [List.set_cons_zero, List.set_cons_succ, List.cons_append, List.nil_append] at H); clear hb1; have F := H.facts; simp only [Facts, NeF, box, row, reg, cellsF, rCert, rCertKey, rInt, ne_eq, true_and, and_true, Nat.reduceAdd, Nat.zero_add] at F)
  go_ret2
  exact ⟨rfl, Hp.b (by repeat (first | (with_reducible exact H) | (with_reducible apply Hp.alloc) | (with_reducible apply Hp.set) | (with_reducible apply Hp.drew) | (with_reducible apply Hp.drewN) | (with_reducible apply Hp.bytesW) | (with_reducible exact Upd.here) | (with_reducible exact Upd.hereR) | (with_reducible apply Upd.there) | (with_reducible apply Sz.alloc) | (with_reducible apply Sz.set) | (with_reducible apply Sz.drew) | (with_reducible apply Sz.drewN) | (with_reducible apply Sz.bytesW) | (with_reducible assumption) | (with_reducible exact Sz.base _)))⟩
end Go.Proofs.YtlblkpcjknjijaaGreatDoor

/- Piles: which lists of revoked numbers rise (the reference). No condition. -/
import Derived.Test.YtlblkpcjknjijaaGreatDoorCertQ
import Derived.Test.YtlblkpcjknjijaaGreatDoorKillP
import Derived.Test.YtlblkpcjknjijaaGreatDoorHasInt
import Derived.Deep.RegionHeld3
set_option linter.unusedVariables false
set_option linter.unusedSimpArgs false
namespace Go.Proofs.YtlblkpcjknjijaaGreatDoor
open Go.RowKit
set_option linter.unusedVariables false
set_option linter.unusedSimpArgs false
theorem Rd.certAt {w : World} {A : Option Addr} {n c : Nat} {us : List Cert} (hr : Rd w w.heap.size 8 A n c (us.flatMap encCert)) (hn : us.length = n) {k : Nat} (hk : k < us.length) {b off : Nat} (hA : A = some ⟨b, off, none⟩) (W : World) (hb : Below w.heap.size w W) :
    W.cell? ⟨b, off + k * 8, none⟩ = some (.int .i64 us[k].ser) ∧ W.cell? ⟨b, off + k * 8 + 1, none⟩ = some (.string us[k].owner) ∧ W.cell? ⟨b, off + k * 8 + 2, none⟩ = some (.int .i64 us[k].iss) ∧ W.cell? ⟨b, off + k * 8 + 3, none⟩ = some (.int .i64 us[k].from_) ∧ W.cell? ⟨b, off + k * 8 + 4, none⟩ = some (.int .i64 us[k].to_) ∧ W.cell? ⟨b, off + k * 8 + 5, none⟩ = some (.bool us[k].ca) ∧ W.cell? ⟨b, off + k * 8 + 6, none⟩ = some (.int .i64 us[k].depth) ∧ W.cell? ⟨b, off + k * 8 + 7, none⟩ = some (.int .i64 us[k].mark) := by
  obtain ⟨b', off', hA', hb', hcell⟩ := hr.elem encCert_len hn (i := k) (by omega)
  obtain ⟨rfl, rfl⟩ : b = b' ∧ off = off' := by rw [hA] at hA'; simpa using hA'
  refine ⟨?_, ?_, ?_, ?_, ?_, ?_, ?_, ?_⟩
  · exact (hb.cell (p := ⟨b, off + k * 8, none⟩) hb').trans (by have := hcell 0 _ rfl; simpa using this)
  · exact (hb.cell (p := ⟨b, off + k * 8 + 1, none⟩) hb').trans (hcell 1 _ rfl)
  · exact (hb.cell (p := ⟨b, off + k * 8 + 2, none⟩) hb').trans (hcell 2 _ rfl)
  · exact (hb.cell (p := ⟨b, off + k * 8 + 3, none⟩) hb').trans (hcell 3 _ rfl)
  · exact (hb.cell (p := ⟨b, off + k * 8 + 4, none⟩) hb').trans (hcell 4 _ rfl)
  · exact (hb.cell (p := ⟨b, off + k * 8 + 5, none⟩) hb').trans (hcell 5 _ rfl)
  · exact (hb.cell (p := ⟨b, off + k * 8 + 6, none⟩) hb').trans (hcell 6 _ rfl)
  · exact (hb.cell (p := ⟨b, off + k * 8 + 7, none⟩) hb').trans (hcell 7 _ rfl)
theorem Rd.keyAt {w : World} {A : Option Addr} {n c : Nat} {us : List CertKey} (hr : Rd w w.heap.size 2 A n c (us.flatMap encCertKey)) (hn : us.length = n) {k : Nat} (hk : k < us.length) {b off : Nat} (hA : A = some ⟨b, off, none⟩) (W : World) (hb : Below w.heap.size w W) :
    W.cell? ⟨b, off + k * 2, none⟩ = some (.int .i64 us[k].ser) ∧ W.cell? ⟨b, off + k * 2 + 1, none⟩ = some (.int .i64 us[k].key) := by
  obtain ⟨b', off', hA', hb', hcell⟩ := hr.elem encCertKey_len hn (i := k) (by omega)
  obtain ⟨rfl, rfl⟩ : b = b' ∧ off = off' := by rw [hA] at hA'; simpa using hA'
  refine ⟨?_, ?_⟩
  · exact (hb.cell (p := ⟨b, off + k * 2, none⟩) hb').trans (by have := hcell 0 _ rfl; simpa using this)
  · exact (hb.cell (p := ⟨b, off + k * 2 + 1, none⟩) hb').trans (hcell 1 _ rfl)
theorem Rd.atC {α : Type} {enc : α → List Value} {w : World} {A : Option Addr} {m n c : Nat} {us : List α} (hl : ∀ x, (enc x).length = m) (hr : Rd w w.heap.size m A n c (us.flatMap enc)) (hn : us.length = n) (h0 : 0 < n) : ∃ b off, A = some ⟨b, off, none⟩ ∧ b < w.heap.size := by
  obtain ⟨b, off, h1, h2, _⟩ := hr.elem hl hn (i := 0) h0
  exact ⟨b, off, h1, h2⟩
set_option maxHeartbeats 8000000 in
set_option maxRecDepth 10000 in
theorem l12Rising_any (A : Option Addr) (n c : Nat) (ds : List Int) (w : World) (hr : Rd w w.heap.size 1 A n c (ds.flatMap encInt)) (hn : ds.length = n) :
    Calls Tryz.prog 51 #[.slice A n c] w fun e w' => e = .returned (.bool (deadRise ds n && decide (n ≤ 60))) ∧ Below w.heap.size w w' := by
  have hc := hr.2.1
  have hm := hr.2.2.1
  unfold maxLen at hm
  have H := Hp.nil w
  go_enter Tryz.func51, Tryz.ntmps51
  go_wp2_with fail
  have HH := Lib.hid H; clear H
  go_loopw [3] (fun i wr => ∃ k : Nat, k ≤ n ∧ i = .int .i64 k ∧ Hid (deadRise ds k = true) ∧ Hid (Hp w wr [])) (fun i _ => n - (intOf i).toNat)
  case atStart =>
    have H := HH.out
    exact ⟨0, Nat.zero_le _, rfl, rfl, Lib.hid (by repeat (first | (with_reducible exact H) | (with_reducible apply Hp.alloc) | (with_reducible apply Hp.set) | (with_reducible apply Hp.drew) | (with_reducible apply Hp.drewN) | (with_reducible apply Hp.bytesW) | (with_reducible exact Upd.here) | (with_reducible exact Upd.hereR) | (with_reducible apply Upd.there) | (with_reducible apply Sz.alloc) | (with_reducible apply Sz.set) | (with_reducible apply Sz.drew) | (with_reducible apply Sz.drewN) | (with_reducible apply Sz.bytesW) | (with_reducible assumption) | (with_reducible exact Sz.base _)))⟩
  case round =>
    clear HH
    obtain ⟨k, hk, rfl, HR, HP⟩ := hrel
    have H := HP.out
    have F := H.facts; simp only [Facts, NeF, box, row, reg, cellsF, ne_eq, true_and, and_true, Nat.reduceAdd, Nat.zero_add] at F
    by_cases hlt : k < n
    · skip
      obtain ⟨b, off, rfl, hb⟩ := Rd.atC encInt_len hr hn (by omega)
      have hcs : ∀ (W : World) (L : List Ent), Hp w W L → _ := fun W L h => Rd.intAt hr hn (k := k) (by omega) W h.b
      have hst : deadStep ds k = (inR (ds[k]'(by omega)) 1 1000000000 && (decide (k = 0) || decide (((ds[k - 1]?).getD 0) < (ds[k]'(by omega))))) := by
        unfold deadStep; rw [List.getElem?_eq_getElem (by omega : k < ds.length)]
      have hk1 : (k : Int) < (n : Int) := by omega
      have hk0 : (0 : Int) ≤ (k : Int) := by omega
      cases h1 : inR (ds[k]'(by omega)) 1 1000000000 with
      | false =>
        have HN : Hid ((deadRise ds n && decide (n ≤ 60)) = false) := by show _ = _; rw [deadRise_no hlt (by rw [hst, h1]; simp)]; rfl
        generalize (ds[k]'(by omega)) = d at *
        have HCS := Lib.hid hcs; clear hcs
        have HST := Lib.hid hst; clear hst
        have hbw : b < wr.heap.size := Nat.lt_of_lt_of_le hb H.b.size
        go_wp2_with fail
        clear F
        (refine wp_region_quiet (C := fun W => Hp w W []) (by kernel_rfl) (by kernel_rfl) (by show Hp _ (World.drew _) _; exact (by repeat (first | (with_reducible exact H) | (with_reducible apply Hp.alloc) | (with_reducible apply Hp.set) | (with_reducible apply Hp.drew) | (with_reducible apply Hp.drewN) | (with_reducible apply Hp.bytesW) | (with_reducible exact Upd.here) | (with_reducible exact Upd.hereR) | (with_reducible apply Upd.there) | (with_reducible apply Sz.alloc) | (with_reducible apply Sz.set) | (with_reducible apply Sz.drew) | (with_reducible apply Sz.drewN) | (with_reducible apply Sz.bytesW) | (with_reducible assumption) | (with_reducible exact Sz.base _)))) ?_; (repeat (first | go_big_quiet_skip | (refine BigFrame.wpQuiet_want (by rfl) (fun K hK => ?_); unfold Oper.quiet; apply Exists.intro; refine ⟨fun W hW => ?_, hK _ ?_⟩; (focus (have G := hW.facts; simp only [Facts, NeF, box, row, reg, cellsF, ne_eq, true_and, and_true, Nat.reduceAdd, Nat.zero_add] at G; have c0 := HCS.out _ _ hW; (try have q0 := HQS.out _ _ hW); go_simp; first | rfl | (go_at_call 38; refine (l01In_any _ _ _ _).mono ?_; rintro e w1 ⟨rfl, rfl⟩; rw [h1]; exact ⟨rfl, hW⟩))); clear hK K; simp only [Act.put, List.setIfInBounds_toArray, List.set_cons_zero, List.set_cons_succ]))); refine wpQuiet_nil ?_; intro wq H; have F := H.facts; simp only [Facts, NeF, box, row, reg, cellsF, ne_eq, true_and, and_true, Nat.reduceAdd, Nat.zero_add] at F)
        all_goals
          go_wp2_with fail
          go_ret
          exact ⟨by rw [HN.out]; rfl, Hp.b (by repeat (first | (with_reducible exact H) | (with_reducible apply Hp.alloc) | (with_reducible apply Hp.set) | (with_reducible apply Hp.drew) | (with_reducible apply Hp.drewN) | (with_reducible apply Hp.bytesW) | (with_reducible exact Upd.here) | (with_reducible exact Upd.hereR) | (with_reducible apply Upd.there) | (with_reducible apply Sz.alloc) | (with_reducible apply Sz.set) | (with_reducible apply Sz.drew) | (with_reducible apply Sz.drewN) | (with_reducible apply Sz.bytesW) | (with_reducible assumption) | (with_reducible exact Sz.base _)))⟩
      | true =>
        by_cases hkz : k = 0
        · have HN : Hid (deadRise ds (k + 1) = true) := deadRise_snoc HR.out (by rw [hst, h1]; simp [hkz])
          have h2 : decide (0 < k) = false := by simp; omega
          have h2i : decide ((0 : Int) < (k : Int)) = false := by simp; omega
          clear hkz
          generalize (ds[k]'(by omega)) = d at *
          have HCS := Lib.hid hcs; clear hcs
          have HST := Lib.hid hst; clear hst
          have hbw : b < wr.heap.size := Nat.lt_of_lt_of_le hb H.b.size
          go_wp2_with fail
          clear F
          (refine wp_region_quiet (C := fun W => Hp w W []) (by kernel_rfl) (by kernel_rfl) (by show Hp _ (World.drew _) _; exact (by repeat (first | (with_reducible exact H) | (with_reducible apply Hp.alloc) | (with_reducible apply Hp.set) | (with_reducible apply Hp.drew) | (with_reducible apply Hp.drewN) | (with_reducible apply Hp.bytesW) | (with_reducible exact Upd.here) | (with_reducible exact Upd.hereR) | (with_reducible apply Upd.there) | (with_reducible apply Sz.alloc) | (with_reducible apply Sz.set) | (with_reducible apply Sz.drew) | (with_reducible apply Sz.drewN) | (with_reducible apply Sz.bytesW) | (with_reducible assumption) | (with_reducible exact Sz.base _)))) ?_; (repeat (first | go_big_quiet_skip | (refine BigFrame.wpQuiet_want (by rfl) (fun K hK => ?_); unfold Oper.quiet; apply Exists.intro; refine ⟨fun W hW => ?_, hK _ ?_⟩; (focus (have G := hW.facts; simp only [Facts, NeF, box, row, reg, cellsF, ne_eq, true_and, and_true, Nat.reduceAdd, Nat.zero_add] at G; have c0 := HCS.out _ _ hW; (try have q0 := HQS.out _ _ hW); go_simp; first | rfl | (go_at_call 38; refine (l01In_any _ _ _ _).mono ?_; rintro e w1 ⟨rfl, rfl⟩; rw [h1]; exact ⟨rfl, hW⟩))); clear hK K; simp only [Act.put, List.setIfInBounds_toArray, List.set_cons_zero, List.set_cons_succ]))); refine wpQuiet_nil ?_; intro wq H; have F := H.facts; simp only [Facts, NeF, box, row, reg, cellsF, ne_eq, true_and, and_true, Nat.reduceAdd, Nat.zero_add] at F)
          all_goals
            go_wp2_with fail
            go_roundw
            case rel => exact ⟨k + 1, by omega, by go_num, HN, Lib.hid (by repeat (first | (with_reducible exact H) | (with_reducible apply Hp.alloc) | (with_reducible apply Hp.set) | (with_reducible apply Hp.drew) | (with_reducible apply Hp.drewN) | (with_reducible apply Hp.bytesW) | (with_reducible exact Upd.here) | (with_reducible exact Upd.hereR) | (with_reducible apply Upd.there) | (with_reducible apply Sz.alloc) | (with_reducible apply Sz.set) | (with_reducible apply Sz.drew) | (with_reducible apply Sz.drewN) | (with_reducible apply Sz.bytesW) | (with_reducible assumption) | (with_reducible exact Sz.base _)))⟩
            case measure => simp [intOf]; omega
        · have h2 : decide (0 < k) = true := by simp; omega
          have h2i : decide ((0 : Int) < (k : Int)) = true := by simp; omega
          have hw1 : IntKind.i64.wrap ((k : Int) - 1) = (k : Int) - 1 := by rw [IntKind.wrap_i64]; omega
          have hp1 : (k : Int) - 1 < (n : Int) := by omega
          have hp0 : (0 : Int) ≤ (k : Int) - 1 := by omega
          have hp2 : (1 : Int) ≤ (k : Int) := by omega
          have hqs : ∀ (W : World) (L : List Ent), Hp w W L → _ := fun W L h => Rd.intAt hr hn (k := k - 1) (by omega) W h.b
          have hpe : (ds[k - 1]?).getD 0 = (ds[k - 1]'(by omega)) := by rw [List.getElem?_eq_getElem (by omega : k - 1 < ds.length)]; rfl
          rw [hpe] at hst
          clear hpe
          generalize (ds[k - 1]'(by omega)) = q at *
          have HQS := Lib.hid hqs; clear hqs
          by_cases h3 : (ds[k]'(by omega)) ≤ q
          · have HN : Hid ((deadRise ds n && decide (n ≤ 60)) = false) := by show _ = _; rw [deadRise_no hlt (by rw [hst, h1]; simp [hkz]; omega)]; rfl
            have h3b : decide ((ds[k]'(by omega)) ≤ q) = true := decide_eq_true h3
            clear hkz
            generalize (ds[k]'(by omega)) = d at *
            have HCS := Lib.hid hcs; clear hcs
            have HST := Lib.hid hst; clear hst
            have hbw : b < wr.heap.size := Nat.lt_of_lt_of_le hb H.b.size
            go_wp2_with fail
            clear F
            (refine wp_region_quiet (C := fun W => Hp w W []) (by kernel_rfl) (by kernel_rfl) (by show Hp _ (World.drew _) _; exact (by repeat (first | (with_reducible exact H) | (with_reducible apply Hp.alloc) | (with_reducible apply Hp.set) | (with_reducible apply Hp.drew) | (with_reducible apply Hp.drewN) | (with_reducible apply Hp.bytesW) | (with_reducible exact Upd.here) | (with_reducible exact Upd.hereR) | (with_reducible apply Upd.there) | (with_reducible apply Sz.alloc) | (with_reducible apply Sz.set) | (with_reducible apply Sz.drew) | (with_reducible apply Sz.drewN) | (with_reducible apply Sz.bytesW) | (with_reducible assumption) | (with_reducible exact Sz.base _)))) ?_; (repeat (first | go_big_quiet_skip | (refine BigFrame.wpQuiet_want (by rfl) (fun K hK => ?_); unfold Oper.quiet; apply Exists.intro; refine ⟨fun W hW => ?_, hK _ ?_⟩; (focus (have G := hW.facts; simp only [Facts, NeF, box, row, reg, cellsF, ne_eq, true_and, and_true, Nat.reduceAdd, Nat.zero_add] at G; have c0 := HCS.out _ _ hW; (try have q0 := HQS.out _ _ hW); go_simp; first | rfl | (go_at_call 38; refine (l01In_any _ _ _ _).mono ?_; rintro e w1 ⟨rfl, rfl⟩; rw [h1]; exact ⟨rfl, hW⟩))); clear hK K; simp only [Act.put, List.setIfInBounds_toArray, List.set_cons_zero, List.set_cons_succ]))); refine wpQuiet_nil ?_; intro wq H; have F := H.facts; simp only [Facts, NeF, box, row, reg, cellsF, ne_eq, true_and, and_true, Nat.reduceAdd, Nat.zero_add] at F)
            all_goals
              go_wp2_with fail
              go_ret
              exact ⟨by rw [HN.out]; rfl, Hp.b (by repeat (first | (with_reducible exact H) | (with_reducible apply Hp.alloc) | (with_reducible apply Hp.set) | (with_reducible apply Hp.drew) | (with_reducible apply Hp.drewN) | (with_reducible apply Hp.bytesW) | (with_reducible exact Upd.here) | (with_reducible exact Upd.hereR) | (with_reducible apply Upd.there) | (with_reducible apply Sz.alloc) | (with_reducible apply Sz.set) | (with_reducible apply Sz.drew) | (with_reducible apply Sz.drewN) | (with_reducible apply Sz.bytesW) | (with_reducible assumption) | (with_reducible exact Sz.base _)))⟩
          · have HN : Hid (deadRise ds (k + 1) = true) := deadRise_snoc HR.out (by rw [hst, h1]; simp; omega)
            have h3b : decide ((ds[k]'(by omega)) ≤ q) = false := decide_eq_false h3
            clear hkz
            generalize (ds[k]'(by omega)) = d at *
            have HCS := Lib.hid hcs; clear hcs
            have HST := Lib.hid hst; clear hst
            have hbw : b < wr.heap.size := Nat.lt_of_lt_of_le hb H.b.size
            go_wp2_with fail
            clear F
            (refine wp_region_quiet (C := fun W => Hp w W []) (by kernel_rfl) (by kernel_rfl) (by show Hp _ (World.drew _) _; exact (by repeat (first | (with_reducible exact H) | (with_reducible apply Hp.alloc) | (with_reducible apply Hp.set) | (with_reducible apply Hp.drew) | (with_reducible apply Hp.drewN) | (with_reducible apply Hp.bytesW) | (with_reducible exact Upd.here) | (with_reducible exact Upd.hereR) | (with_reducible apply Upd.there) | (with_reducible apply Sz.alloc) | (with_reducible apply Sz.set) | (with_reducible apply Sz.drew) | (with_reducible apply Sz.drewN) | (with_reducible apply Sz.bytesW) | (with_reducible assumption) | (with_reducible exact Sz.base _)))) ?_; (repeat (first | go_big_quiet_skip | (refine BigFrame.wpQuiet_want (by rfl) (fun K hK => ?_); unfold Oper.quiet; apply Exists.intro; refine ⟨fun W hW => ?_, hK _ ?_⟩; (focus (have G := hW.facts; simp only [Facts, NeF, box, row, reg, cellsF, ne_eq, true_and, and_true, Nat.reduceAdd, Nat.zero_add] at G; have c0 := HCS.out _ _ hW; (try have q0 := HQS.out _ _ hW); go_simp; first | rfl | (go_at_call 38; refine (l01In_any _ _ _ _).mono ?_; rintro e w1 ⟨rfl, rfl⟩; rw [h1]; exact ⟨rfl, hW⟩))); clear hK K; simp only [Act.put, List.setIfInBounds_toArray, List.set_cons_zero, List.set_cons_succ]))); refine wpQuiet_nil ?_; intro wq H; have F := H.facts; simp only [Facts, NeF, box, row, reg, cellsF, ne_eq, true_and, and_true, Nat.reduceAdd, Nat.zero_add] at F)
            all_goals
              go_wp2_with fail
              go_roundw
              case rel => exact ⟨k + 1, by omega, by go_num, HN, Lib.hid (by repeat (first | (with_reducible exact H) | (with_reducible apply Hp.alloc) | (with_reducible apply Hp.set) | (with_reducible apply Hp.drew) | (with_reducible apply Hp.drewN) | (with_reducible apply Hp.bytesW) | (with_reducible exact Upd.here) | (with_reducible exact Upd.hereR) | (with_reducible apply Upd.there) | (with_reducible apply Sz.alloc) | (with_reducible apply Sz.set) | (with_reducible apply Sz.drew) | (with_reducible apply Sz.drewN) | (with_reducible apply Sz.bytesW) | (with_reducible assumption) | (with_reducible exact Sz.base _)))⟩
              case measure => simp [intOf]; omega
    · have HF : Hid (deadRise ds n = true) := by rw [show n = k by omega]; exact HR
      have hd : decide ((n : Int) ≤ 60) = decide (n ≤ 60) := decide_eq_decide.2 (by omega)
      go_wp2_with fail
      go_ret
      exact ⟨by rw [HF.out, Bool.true_and, ← hd]; rfl, H.b⟩
end Go.Proofs.YtlblkpcjknjijaaGreatDoor

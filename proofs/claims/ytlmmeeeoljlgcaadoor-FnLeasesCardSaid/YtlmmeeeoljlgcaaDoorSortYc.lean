/- Merging in place, whole. No condition. -/
import Derived.Test.YtlmmeeeoljlgcaaDoorSortYb
import Derived.Deep.DeepCutAuto
set_option linter.unusedVariables false
set_option linter.unusedSimpArgs false
namespace Go.Proofs.YtlmmeeeoljlgcaaDoor
open Go.RowKit
set_option linter.unusedVariables false
set_option linter.unusedSimpArgs false
set_option maxHeartbeats 16000000 in
set_option maxRecDepth 10000 in
theorem symC_hp (g : Nat) (eg : ∀ args w, (callFunc g args).run Tryd.prog w = .ok (.enter g args) w) (HC : Hid (∀ (W : World) (x y : Lease), Calls Tryd.prog g #[valL x, valL y] W fun e w' => e = .returned (.int .i64 (cmpZ x y)) ∧ Below W.heap.size W w')) (A : Option Addr) (n c : Nat) (X : Ent) (w0 : World) (hn20 : n ≤ 1048576) (a m b : Nat) (P U V S : List Lease) (w : World) (H : Hp w0 w [rLs A n c (P ++ (U ++ (V ++ S))), X]) (hl : Hid (P.length = a ∧ a + U.length = m ∧ m + V.length = b ∧ b + S.length = n ∧ 0 < U.length ∧ 0 < V.length)) (hs : Hid (SoZ U ∧ SoZ V ∧ BeS (·.id) U V)) (h0 : a + 1 < m) (h1 : m + 1 < b)
    (HI : Hid (∀ (a' m' b' : Nat) (P U V S : List Lease) (w : World), b' - a' < b - a → Hp w0 w [rLs A n c (P ++ (U ++ (V ++ S))), X] → Hid (P.length = a' ∧ a' + U.length = m' ∧ m' + V.length = b' ∧ b' + S.length = n ∧ 0 < U.length ∧ 0 < V.length) → Hid (SoZ U ∧ SoZ V ∧ BeS (·.id) U V) → Calls Tryd.prog 89 #[.slice A n c, .int .i64 a', .int .i64 m', .int .i64 b', .func (.func g) #[] #[]] w fun e w' => e = .returned (.tuple #[]) ∧ ∃ Z, Z.Perm (U ++ V) ∧ SoZ Z ∧ Hp w0 w' [rLs A n c (P ++ (Z ++ S)), X])) :
    Calls Tryd.prog 89 #[.slice A n c, .int .i64 a, .int .i64 m, .int .i64 b, .func (.func g) #[] #[]] w fun e w' => e = .returned (.tuple #[]) ∧ ∃ Z, Z.Perm (U ++ V) ∧ SoZ Z ∧ Hp w0 w' [rLs A n c (P ++ (Z ++ S)), X] := by
  have hbn : b ≤ n := by have := hl.out; omega
  obtain ⟨d, hd⟩ : ∃ d, m - a = d := ⟨_, rfl⟩
  obtain ⟨d2, hdd⟩ : ∃ d2, b - m = d2 := ⟨_, rfl⟩
  have hw0 : IntKind.i64.wrap ((m : Int) - (a : Int)) = (d : Int) := by rw [IntKind.wrap_i64]; omega
  have hw1 : IntKind.i64.wrap ((b : Int) - (m : Int)) = (d2 : Int) := by rw [IntKind.wrap_i64]; omega
  have hd1 : ¬ (d : Int) = 1 := by omega
  have hd2 : ((d : Int) == 1) = false := by simp; omega
  have hd3 : ¬ (d2 : Int) = 1 := by omega
  have hd4 : ((d2 : Int) == 1) = false := by simp; omega
  obtain ⟨mid, hmid⟩ : ∃ mid, (a + b) / 2 = mid := ⟨_, rfl⟩
  have hmi : ((a : Int) + (b : Int)) / 2 = (mid : Int) := by omega
  obtain ⟨nn, hnn⟩ : ∃ nn, mid + m = nn := ⟨_, rfl⟩
  have hwn : IntKind.i64.wrap ((mid : Int) + (m : Int)) = (nn : Int) := by rw [IntKind.wrap_i64]; omega
  have hm9 : a ≤ 1048576 ∧ b ≤ 1048576 ∧ mid ≤ 1048576 ∧ nn ≤ 2097152 := ⟨by omega, by omega, by omega, by omega⟩
  obtain ⟨ha9, hb9, hmd9, hnn9⟩ := hm9
  have HG : Hid (2 * mid ≤ a + b ∧ a + b ≤ 2 * mid + 1 ∧ mid + m = nn ∧ a + 1 < m ∧ m + 1 < b ∧ P.length = a ∧ a + U.length = m ∧ m + V.length = b ∧ b + S.length = n) := by have := hl.out; exact ⟨by omega, by omega, hnn, h0, h1, by omega, by omega, by omega, by omega⟩
  clear hd hdd hmid hnn hl h0 h1
  go_enter Tryd.func89, Tryd.ntmps89
  go_upto_if 140 with fail
  go_cut [20, 21] (fun s20 s21 wc => ∃ st r : Nat, s20 = .int .i64 st ∧ s21 = .int .i64 r ∧ Hid (a ≤ st ∧ st ≤ r ∧ r ≤ m ∧ r ≤ mid ∧ nn ≤ st + b) ∧ Hid (∀ u v, (U.take (st - a)).getLast? = some u → (V.drop (mid - st)).head? = some v → NotLt v u) ∧ Hid (∀ v u, (V.take (mid - r)).getLast? = some v → (U.drop (r - a)).head? = some u → v.ends < u.ends) ∧ Hp w0 wc [rLs A n c (P ++ (U ++ (V ++ S))), X])
  case first =>
    as_aux_lemma =>
    by_cases hmm : mid < m
    · have hmi1 : (mid : Int) < (m : Int) := by omega
      obtain ⟨st, hst⟩ : ∃ st, nn - b = st := ⟨_, rfl⟩
      have hws : IntKind.i64.wrap ((nn : Int) - (b : Int)) = (st : Int) := by have := HG.out; rw [IntKind.wrap_i64]; omega
      go_wp2_with fail
      go_meet
      refine ⟨st, mid, rfl, rfl, ?_, ?_, ?_, (by repeat (first | (with_reducible exact H) | (with_reducible apply Hp.alloc) | (with_reducible apply Hp.set) | (with_reducible apply Hp.drew) | (with_reducible apply Hp.drewN) | (with_reducible apply Hp.bytesW) | (with_reducible exact Upd.here) | (with_reducible exact Upd.hereR) | (with_reducible apply Upd.there) | (with_reducible apply Sz.alloc) | (with_reducible apply Sz.set) | (with_reducible apply Sz.drew) | (with_reducible apply Sz.drewN) | (with_reducible apply Sz.bytesW) | (with_reducible assumption) | (with_reducible exact Sz.base _)))⟩
      · have := HG.out; exact ⟨by omega, by omega, by omega, by omega, by omega⟩
      · intro u v _ h
        rw [List.drop_eq_nil_of_le (by have := HG.out; omega)] at h; cases h
      · intro v u h
        rw [Nat.sub_self, List.take_zero] at h; cases h
    · have hmi1 : ¬ (mid : Int) < (m : Int) := by omega
      go_wp2_with fail
      go_meet
      refine ⟨a, m, rfl, rfl, ?_, ?_, ?_, (by repeat (first | (with_reducible exact H) | (with_reducible apply Hp.alloc) | (with_reducible apply Hp.set) | (with_reducible apply Hp.drew) | (with_reducible apply Hp.drewN) | (with_reducible apply Hp.bytesW) | (with_reducible exact Upd.here) | (with_reducible exact Upd.hereR) | (with_reducible apply Upd.there) | (with_reducible apply Sz.alloc) | (with_reducible apply Sz.set) | (with_reducible apply Sz.drew) | (with_reducible apply Sz.drewN) | (with_reducible apply Sz.bytesW) | (with_reducible assumption) | (with_reducible exact Sz.base _)))⟩
      · have := HG.out; exact ⟨by omega, by omega, by omega, by omega, by omega⟩
      · intro u v h
        rw [Nat.sub_self, List.take_zero] at h; cases h
      · intro v u _ h
        rw [List.drop_eq_nil_of_le (by have := HG.out; omega)] at h; cases h
  case rest =>
  clear H
  obtain ⟨st, r, rfl, rfl, HB, HLo, HHi, H⟩ := hcut
  have hwp : IntKind.i64.wrap ((nn : Int) - 1) = ((nn - 1 : Nat) : Int) := by have := HG.out; rw [IntKind.wrap_i64]; omega
  obtain ⟨pp, hpp⟩ : ∃ pp, nn - 1 = pp := ⟨_, rfl⟩
  rw [hpp] at hwp
  have HPP := Lib.hid hpp
  clear hpp
  go_wp2_with fail
  have HH := Lib.hid H; clear H
  go_loopw [20, 21, 23] (fun i j s23 wr => ∃ st r : Nat, i = .int .i64 st ∧ j = .int .i64 r ∧ Hid (a ≤ st ∧ st ≤ r ∧ r ≤ m ∧ r ≤ mid ∧ nn ≤ st + b) ∧ Hid (∀ u v, (U.take (st - a)).getLast? = some u → (V.drop (mid - st)).head? = some v → NotLt v u) ∧ Hid (∀ v u, (V.take (mid - r)).getLast? = some v → (U.drop (r - a)).head? = some u → v.ends < u.ends) ∧ Hid (Hp w0 wr [rLs A n c (P ++ (U ++ (V ++ S))), X])) (fun i j _ _ => (intOf j).toNat - (intOf i).toNat)
  case atStart => exact ⟨st, r, rfl, rfl, HB, HLo, HHi, HH⟩
  case round =>
    clear HH HB HLo HHi st r
    obtain ⟨st, r, rfl, rfl, HB, HLo, HHi, HP⟩ := hrel
    have H := HP.out
    by_cases hlt : st < r
    · as_aux_lemma =>
      obtain ⟨b1, b2, b3, b4, b5⟩ := HB.out
      obtain ⟨g1', g2', g3', g4', g5', g6', g7', g8', g9'⟩ := HG.out
      have hpp := HPP.out
      obtain ⟨k, hk⟩ : ∃ k, (st + r) / 2 = k := ⟨_, rfl⟩
      have hki : st ≤ k ∧ k < r := by omega
      have hkk : ((st : Int) + (r : Int)) / 2 = (k : Int) := by omega
      obtain ⟨q, hq⟩ : ∃ q, pp - k = q := ⟨_, rfl⟩
      have hwq : IntKind.i64.wrap ((pp : Int) - (k : Int)) = (q : Int) := by rw [IntKind.wrap_i64]; omega
      obtain ⟨t, ht⟩ : ∃ t, k = a + t := ⟨k - a, by omega⟩
      obtain ⟨t2, ht2⟩ : ∃ t2, q = m + t2 := ⟨q - m, by omega⟩
      have htv : t < U.length := by omega
      have htv2 : t2 < V.length := by omega
      obtain ⟨u, hu⟩ : ∃ u, U[t] = u := ⟨_, rfl⟩
      obtain ⟨v, hv⟩ : ∃ v, V[t2] = v := ⟨_, rfl⟩
      obtain ⟨xs, hxs⟩ : ∃ xs, P ++ (U ++ (V ++ S)) = xs := ⟨_, rfl⟩
      have HLN : Hid (xs.length = n) := by show _ = _; rw [← hxs]; simp; omega
      have hkn : k < xs.length := by have := HLN.out; omega
      have hqn : q < xs.length := by have := HLN.out; omega
      have HXQ : Hid (xs[k] = u) := by
        show _ = _
        subst ht
        exact get_at3 hxs g6' htv hu hkn
      have HXP : Hid (xs[q] = v) := by
        show _ = _
        subst ht2
        exact get_at3 (P := P ++ U) (R := S) (by rw [← hxs]; simp) (by rw [List.length_append]; omega) htv2 hv hqn
      rw [hxs] at H
      obtain ⟨g1, rfl⟩ := rowGl (H.rowM List.mem_cons_self) (by omega)
      have hk1 : (k : Int) < (n : Int) := by have := HLN.out; omega
      have hq1 : (q : Int) < (n : Int) := by have := HLN.out; omega
      have hk0 : (0 : Int) ≤ (k : Int) := by omega
      have hq0 : (0 : Int) ≤ (q : Int) := by omega
      have hij1 : (st : Int) < (r : Int) := by omega
      have hj9 : r ≤ 1048576 := by omega
      by_cases hc : v.ends < u.ends
      · have HCZ := Lib.hid (cmpZ_lt hc)
        have HN : Hid (∀ v u, (V.take (mid - k)).getLast? = some v → (U.drop (k - a)).head? = some u → v.ends < u.ends) := by
          intro v' u' hv' hu'
          obtain ⟨h8, h9⟩ := head_drop hu'
          obtain ⟨-, h6, h7⟩ := last_take (by omega) hv'
          have e1 : u' = u := by rw [← h9, ← hu]; congr 1; omega
          have e2 : v' = v := by rw [← h7, ← hv]; congr 1; omega
          rw [e1, e2]; exact hc
        have HB2 : Hid (a ≤ st ∧ st ≤ k ∧ k ≤ m ∧ k ≤ mid ∧ nn ≤ st + b) := ⟨by omega, by omega, by omega, by omega, by omega⟩
        have HM : Hid (k - st < r - st) := by show _ < _; omega
        clear hk hki ht ht2 htv htv2 hu hv hc hlt HP b1 b2 b3 b4 b5 g1' g2' g3' g4' g5' g6' g7' g8' g9' hpp hq
        go_upto_region 35 with fail
        (refine wp_region_quiet (C := fun W => Hp w0 W [rLs (some ⟨g1, 0, none⟩) n c xs, X]) (by kernel_rfl) (by kernel_rfl) (by show Hp _ (World.drew _) _; exact (by repeat (first | (with_reducible exact H) | (with_reducible apply Hp.alloc) | (with_reducible apply Hp.set) | (with_reducible apply Hp.drew) | (with_reducible apply Hp.drewN) | (with_reducible apply Hp.bytesW) | (with_reducible exact Upd.here) | (with_reducible exact Upd.hereR) | (with_reducible apply Upd.there) | (with_reducible apply Sz.alloc) | (with_reducible apply Sz.set) | (with_reducible apply Sz.drew) | (with_reducible apply Sz.drewN) | (with_reducible apply Sz.bytesW) | (with_reducible assumption) | (with_reducible exact Sz.base _)))) ?_; (repeat (first | go_big_quiet_skip | (refine BigFrame.wpQuiet_want (by rfl) (fun K hK => ?_); unfold Oper.quiet; apply Exists.intro; refine ⟨fun W hW => ?_, hK _ ?_⟩; (focus (have G := hW.facts; simp only [Facts, NeF, box, row, reg, cellsF, ne_eq, true_and, and_true, Nat.reduceAdd, Nat.zero_add] at G; obtain ⟨ca0, ca1, ca2, ca3, ca4, ca5⟩ := lsAt hW List.mem_cons_self HLN.out (k := q) (by omega); obtain ⟨cb0, cb1, cb2, cb3, cb4, cb5⟩ := lsAt hW List.mem_cons_self HLN.out (k := k) (by omega); rw [HXP.out] at ca0 ca1 ca2 ca3 ca4 ca5; rw [HXQ.out] at cb0 cb1 cb2 cb3 cb4 cb5; go_simp; first | rfl | (go_at_fn g; refine (HC.out _ v u).mono ?_; rintro e w' ⟨rfl, hb⟩; rw [HCZ.out]; exact ⟨rfl, hW.step hb⟩))); clear hK K; simp only [Act.put, List.setIfInBounds_toArray, List.set_cons_zero, List.set_cons_succ]))); refine wpQuiet_nil ?_; intro wq H; have F := H.facts; simp only [Facts, NeF, box, row, reg, cellsF, ne_eq, true_and, and_true, Nat.reduceAdd, Nat.zero_add] at F)
        all_goals
          go_wp2_with fail
          go_roundw
          case rel => exact ⟨st, k, rfl, by go_num, HB2, HLo, HN, Lib.hid (Hp.intoL (by repeat (first | (with_reducible exact H) | (with_reducible apply Hp.alloc) | (with_reducible apply Hp.set) | (with_reducible apply Hp.drew) | (with_reducible apply Hp.drewN) | (with_reducible apply Hp.bytesW) | (with_reducible exact Upd.here) | (with_reducible exact Upd.hereR) | (with_reducible apply Upd.there) | (with_reducible apply Sz.alloc) | (with_reducible apply Sz.set) | (with_reducible apply Sz.drew) | (with_reducible apply Sz.drewN) | (with_reducible apply Sz.bytesW) | (with_reducible assumption) | (with_reducible exact Sz.base _))) fun H9 => by rw [hxs]; exact H9)⟩
          case measure => have := HM.out; simp [intOf]; omega
      · obtain ⟨z, hz, hz0⟩ := cmpZ_ge hc
        have HCZ := Lib.hid hz
        have hrd : decide (z < 0) = false := decide_eq_false hz0
        have HN : Hid (∀ u v, (U.take (k + 1 - a)).getLast? = some u → (V.drop (mid - (k + 1))).head? = some v → ¬ v.ends < u.ends) := by
          intro u' v' hu' hv'
          obtain ⟨h8, h9⟩ := head_drop hv'
          obtain ⟨-, h6, h7⟩ := last_take (by omega) hu'
          have e1 : u' = u := by rw [← h7, ← hu]; congr 1; omega
          have e2 : v' = v := by rw [← h9, ← hv]; congr 1; omega
          rw [e1, e2]; exact hc
        have HB2 : Hid (a ≤ k + 1 ∧ k + 1 ≤ r ∧ r ≤ m ∧ r ≤ mid ∧ nn ≤ k + 1 + b) := ⟨by omega, by omega, by omega, by omega, by omega⟩
        have HM : Hid (r - (k + 1) < r - st) := by show _ < _; omega
        have hk9 : k ≤ 1048576 := by omega
        clear hk hki ht ht2 htv htv2 hu hv hc hlt HP b1 b2 b3 b4 b5 g1' g2' g3' g4' g5' g6' g7' g8' g9' hpp hq hz
        go_upto_region 35 with fail
        (refine wp_region_quiet (C := fun W => Hp w0 W [rLs (some ⟨g1, 0, none⟩) n c xs, X]) (by kernel_rfl) (by kernel_rfl) (by show Hp _ (World.drew _) _; exact (by repeat (first | (with_reducible exact H) | (with_reducible apply Hp.alloc) | (with_reducible apply Hp.set) | (with_reducible apply Hp.drew) | (with_reducible apply Hp.drewN) | (with_reducible apply Hp.bytesW) | (with_reducible exact Upd.here) | (with_reducible exact Upd.hereR) | (with_reducible apply Upd.there) | (with_reducible apply Sz.alloc) | (with_reducible apply Sz.set) | (with_reducible apply Sz.drew) | (with_reducible apply Sz.drewN) | (with_reducible apply Sz.bytesW) | (with_reducible assumption) | (with_reducible exact Sz.base _)))) ?_; (repeat (first | go_big_quiet_skip | (refine BigFrame.wpQuiet_want (by rfl) (fun K hK => ?_); unfold Oper.quiet; apply Exists.intro; refine ⟨fun W hW => ?_, hK _ ?_⟩; (focus (have G := hW.facts; simp only [Facts, NeF, box, row, reg, cellsF, ne_eq, true_and, and_true, Nat.reduceAdd, Nat.zero_add] at G; obtain ⟨ca0, ca1, ca2, ca3, ca4, ca5⟩ := lsAt hW List.mem_cons_self HLN.out (k := q) (by omega); obtain ⟨cb0, cb1, cb2, cb3, cb4, cb5⟩ := lsAt hW List.mem_cons_self HLN.out (k := k) (by omega); rw [HXP.out] at ca0 ca1 ca2 ca3 ca4 ca5; rw [HXQ.out] at cb0 cb1 cb2 cb3 cb4 cb5; go_simp; first | rfl | (go_at_fn g; refine (HC.out _ v u).mono ?_; rintro e w' ⟨rfl, hb⟩; rw [HCZ.out]; exact ⟨rfl, hW.step hb⟩))); clear hK K; simp only [Act.put, List.setIfInBounds_toArray, List.set_cons_zero, List.set_cons_succ]))); refine wpQuiet_nil ?_; intro wq H; have F := H.facts; simp only [Facts, NeF, box, row, reg, cellsF, ne_eq, true_and, and_true, Nat.reduceAdd, Nat.zero_add] at F)
        all_goals
          go_wp2_with fail
          go_roundw
          case rel => exact ⟨k + 1, r, by go_num, rfl, HB2, HN, HHi, Lib.hid (Hp.intoL (by repeat (first | (with_reducible exact H) | (with_reducible apply Hp.alloc) | (with_reducible apply Hp.set) | (with_reducible apply Hp.drew) | (with_reducible apply Hp.drewN) | (with_reducible apply Hp.bytesW) | (with_reducible exact Upd.here) | (with_reducible exact Upd.hereR) | (with_reducible apply Upd.there) | (with_reducible apply Sz.alloc) | (with_reducible apply Sz.set) | (with_reducible apply Sz.drew) | (with_reducible apply Sz.drewN) | (with_reducible apply Sz.bytesW) | (with_reducible assumption) | (with_reducible exact Sz.base _))) fun H9 => by rw [hxs]; exact H9)⟩
          case measure => have := HM.out; simp [intOf]; omega
    · obtain ⟨b1, b2, b3, b4, b5⟩ := HB.out
      obtain rfl : st = r := by omega
      obtain ⟨g1', g2', g3', g4', g5', g6', g7', g8', g9'⟩ := HG.out
      obtain ⟨U1, U2, hU, hU1⟩ : ∃ U1 U2, U = U1 ++ U2 ∧ U1 = U.take (st - a) ∧ U2 = U.drop (st - a) := ⟨U.take (st - a), U.drop (st - a), (List.take_append_drop _ _).symm, rfl, rfl⟩
      obtain ⟨V1, V2, hV, hV1⟩ : ∃ V1 V2, V = V1 ++ V2 ∧ V1 = V.take (mid - st) ∧ V2 = V.drop (mid - st) := ⟨V.take (mid - st), V.drop (mid - st), (List.take_append_drop _ _).symm, rfl, rfl⟩
      have HLo2 : Hid (∀ u v, U1.getLast? = some u → V2.head? = some v → NotLt v u) := by rw [hU1.1, hV1.2]; exact HLo.out
      have HHi2 : Hid (∀ v u, V1.getLast? = some v → U2.head? = some u → v.ends < u.ends) := by rw [hU1.2, hV1.1]; exact HHi.out
      obtain ⟨e, he⟩ : ∃ e, nn - st = e := ⟨_, rfl⟩
      have hwe : IntKind.i64.wrap ((nn : Int) - (st : Int)) = (e : Int) := by rw [IntKind.wrap_i64]; omega
      have hu1 : U1.length = st - a := by rw [hU1.1, List.length_take]; omega
      have hv1 : V1.length = mid - st := by rw [hV1.1, List.length_take]; omega
      have HE : Hid (a + U1.length = st ∧ st + U2.length = m ∧ m + V1.length = e ∧ e + V2.length = b ∧ st + V1.length = mid ∧ mid + U2.length = e) := by
        rw [hU, List.length_append] at g7'
        rw [hV, List.length_append] at g8'
        exact ⟨by omega, by omega, by omega, by omega, by omega, by omega⟩
      clear hU1 hV1 hu1 hv1 HLo HHi HB he
      subst hU hV
      have hst1 : ¬ (st : Int) < (st : Int) := by omega
      have he9 : e ≤ 1048576 ∧ st ≤ 1048576 := by have := HE.out; exact ⟨by omega, by omega⟩
      have hab1 : a < b := by omega
      obtain ⟨s1, s2, s3⟩ := hs.out
      have HS1 : Hid (SoZ U1 ∧ SoZ V1 ∧ BeS (·.id) U1 V1) := ⟨(List.pairwise_append.1 s1).1, (List.pairwise_append.1 s2).1, fun x hx y hy => s3 x (List.mem_append_left _ hx) y (List.mem_append_left _ hy)⟩
      have HS2 : Hid (SoZ U2 ∧ SoZ V2 ∧ BeS (·.id) U2 V2) := ⟨(List.pairwise_append.1 s1).2.1, (List.pairwise_append.1 s2).2.1, fun x hx y hy => s3 x (List.mem_append_right _ hx) y (List.mem_append_right _ hy)⟩
      clear s1 s2 s3 hlt HP b1 b2 b3 b4 b5 g1' g2' g3' g4' g5' g7' g8'
      go_upto_region 39 with fail
      go_cut [185] (fun s wc => ∃ bb : Bool, s = .bool bb ∧ Hid (bb = true ↔ (st < m ∧ m < e)) ∧ Hp w0 wc [rLs A n c (P ++ (U1 ++ U2 ++ (V1 ++ V2 ++ S))), X])
      case first =>
        as_aux_lemma =>
        by_cases hsm : st < m
        · have hsm1 : (st : Int) < (m : Int) := by omega
          by_cases hme : m < e
          · have hme1 : (m : Int) < (e : Int) := by omega
            go_wp2_with fail
            go_meet
            exact ⟨true, rfl, iff_of_true rfl ⟨hsm, hme⟩, H⟩
          · have hme1 : ¬ (m : Int) < (e : Int) := by omega
            go_wp2_with fail
            go_meet
            exact ⟨false, rfl, iff_of_false (by decide) (fun h => hme h.2), H⟩
        · have hsm1 : ¬ (st : Int) < (m : Int) := by omega
          go_wp2_with fail
          go_meet
          exact ⟨false, rfl, iff_of_false (by decide) (fun h => hsm h.1), H⟩
      case rest =>
      clear H
      obtain ⟨bb, rfl, HBB, H⟩ := hcut
      go_upto_if 185 with fail
      go_cut [] (fun wc => ∃ ys : List Lease, Hid (ys = P ++ (U1 ++ (V1 ++ (U2 ++ (V2 ++ S))))) ∧ Hp w0 wc [rLs A n c ys, X])
      case first =>
        as_aux_lemma =>
        cases bb with
        | true =>
          obtain ⟨hsm, hme⟩ := HBB.out.1 rfl
          have HR : Hid ((P ++ U1).length = st ∧ st + U2.length = m ∧ m + V1.length = e ∧ e + (V2 ++ S).length = n) := by have := HE.out; rw [List.length_append, List.length_append]; exact ⟨by omega, by omega, by omega, by omega⟩
          go_wp2_with (go_at_call 96; refine (rotate_hp A n c st m e _ (P ++ U1) U2 V1 (V2 ++ S) [X] w0 _ (by simpa using H) HR hsm hme hn20).mono ?_; rintro ee w5 ⟨rfl, H5⟩)
          go_meet
          exact ⟨_, rfl, by simpa using H5⟩
        | false =>
          have hor : U2 = [] ∨ V1 = [] := by
            have h9 := HE.out
            by_cases hsm : st < m
            · by_cases hme : m < e
              · exact absurd (HBB.out.2 ⟨hsm, hme⟩) (by decide)
              · exact .inr (List.eq_nil_of_length_eq_zero (by omega))
            · exact .inl (List.eq_nil_of_length_eq_zero (by omega))
          go_wp2_with fail
          go_meet
          rcases hor with rfl | rfl
          · exact ⟨_, rfl, by simpa using H⟩
          · exact ⟨_, rfl, by simpa using H⟩
      case rest =>
      clear H
      obtain ⟨ys, hys, H⟩ := hcut
      have hy2 := hys.out
      subst hy2
      clear hys
      clear HBB
      go_upto_region 41 with fail
      go_cut [199] (fun s wc => ∃ bb : Bool, s = .bool bb ∧ Hid (bb = true ↔ (a < st ∧ st < mid)) ∧ Hp w0 wc [rLs A n c (P ++ (U1 ++ (V1 ++ (U2 ++ (V2 ++ S))))), X])
      case first =>
        by_cases hsm : a < st
        · have hsm1 : (a : Int) < (st : Int) := by omega
          by_cases hme : st < mid
          · have hme1 : (st : Int) < (mid : Int) := by omega
            go_wp2_with fail
            go_meet
            exact ⟨true, rfl, iff_of_true rfl ⟨hsm, hme⟩, H⟩
          · have hme1 : ¬ (st : Int) < (mid : Int) := by omega
            go_wp2_with fail
            go_meet
            exact ⟨false, rfl, iff_of_false (by decide) (fun h => hme h.2), H⟩
        · have hsm1 : ¬ (a : Int) < (st : Int) := by omega
          go_wp2_with fail
          go_meet
          exact ⟨false, rfl, iff_of_false (by decide) (fun h => hsm h.1), H⟩
      case rest =>
      clear H
      obtain ⟨bb, rfl, HBB, H⟩ := hcut
      go_upto_if 199 with fail
      go_cut [] (fun wc => ∃ Z1, Hid (Z1.Perm (U1 ++ V1) ∧ SoZ Z1) ∧ Hp w0 wc [rLs A n c (P ++ (Z1 ++ (U2 ++ (V2 ++ S)))), X])
      case first =>
        cases bb with
        | true =>
          obtain ⟨has, hsd⟩ := HBB.out.1 rfl
          have HR : Hid (P.length = a ∧ a + U1.length = st ∧ st + V1.length = mid ∧ mid + (U2 ++ (V2 ++ S)).length = n ∧ 0 < U1.length ∧ 0 < V1.length) := by have := HE.out; rw [List.length_append, List.length_append]; exact ⟨by omega, by omega, by omega, by omega, by omega, by omega⟩
          go_wp2_with (go_at_call 89; refine (HI.out a st mid P U1 V1 (U2 ++ (V2 ++ S)) _ (by have := HE.out; omega) H HR HS1).mono ?_; rintro ee w6 ⟨rfl, Z1, hz1, hz2, H6⟩)
          go_meet
          exact ⟨Z1, ⟨hz1, hz2⟩, H6⟩
        | false =>
          have hor : U1 = [] ∨ V1 = [] := by
            have h9 := HE.out
            by_cases hsm : a < st
            · by_cases hme : st < mid
              · exact absurd (HBB.out.2 ⟨hsm, hme⟩) (by decide)
              · exact .inr (List.eq_nil_of_length_eq_zero (by omega))
            · exact .inl (List.eq_nil_of_length_eq_zero (by omega))
          go_wp2_with fail
          go_meet
          rcases hor with rfl | rfl
          · exact ⟨V1, ⟨by rw [List.nil_append], HS1.out.2.1⟩, by simpa using H⟩
          · exact ⟨U1, ⟨by rw [List.append_nil], HS1.out.1⟩, by simpa using H⟩
      case rest =>
      clear H
      obtain ⟨Z1, HZ1, H⟩ := hcut
      have hzl : Z1.length = U1.length + V1.length := by rw [HZ1.out.1.length_eq, List.length_append]
      have HZL := Lib.hid hzl
      clear hzl
      by_cases hde : mid < e
      · have hde1 : (mid : Int) < (e : Int) := by omega
        by_cases heb : e < b
        · have heb1 : (e : Int) < (b : Int) := by omega
          have HR : Hid ((P ++ Z1).length = mid ∧ mid + U2.length = e ∧ e + V2.length = b ∧ b + S.length = n ∧ 0 < U2.length ∧ 0 < V2.length) := by have := HE.out; have := HZL.out; rw [List.length_append]; exact ⟨by omega, by omega, by omega, by omega, by omega, by omega⟩
          go_wp2_with (go_at_call 89; refine (HI.out mid e b (P ++ Z1) U2 V2 S _ (by have := HE.out; have := HG.out; omega) (by simpa using H) HR HS2).mono ?_; rintro ee w6 ⟨rfl, Z2, hz1, hz2, H6⟩)
          have HJ := sym_join (en := (·.ends)) (id := (·.id)) hs.out.1 hs.out.2.1 hs.out.2.2 HLo2.out HHi2.out HZ1.out.1 HZ1.out.2 hz1 hz2
          refine bodyPost_end (v := .tuple #[]) (by simp [results, Tryd.results89, go_sem]) rfl ⟨rfl, Z1 ++ Z2, by simpa using HJ.2, HJ.1, by simpa using H6⟩
        · have heb1 : ¬ (e : Int) < (b : Int) := by omega
          have hv0 : V2 = [] := List.eq_nil_of_length_eq_zero (by have := HE.out; omega)
          subst hv0
          have HJ := sym_join (en := (·.ends)) (id := (·.id)) (Z2 := U2) hs.out.1 hs.out.2.1 hs.out.2.2 HLo2.out HHi2.out HZ1.out.1 HZ1.out.2 (by rw [List.append_nil]) HS2.out.1
          go_wp2_with fail
          refine bodyPost_end (v := .tuple #[]) (by simp [results, Tryd.results89, go_sem]) rfl ⟨rfl, Z1 ++ U2, by simpa using HJ.2, HJ.1, by simpa using H⟩
      · have hde1 : ¬ (mid : Int) < (e : Int) := by omega
        have hu0 : U2 = [] := List.eq_nil_of_length_eq_zero (by have := HE.out; omega)
        subst hu0
        have HJ := sym_join (en := (·.ends)) (id := (·.id)) (Z2 := V2) hs.out.1 hs.out.2.1 hs.out.2.2 HLo2.out HHi2.out HZ1.out.1 HZ1.out.2 (by rw [List.nil_append]) HS2.out.2.1
        go_wp2_with fail
        refine bodyPost_end (v := .tuple #[]) (by simp [results, Tryd.results89, go_sem]) rfl ⟨rfl, Z1 ++ V2, by simpa using HJ.2, HJ.1, by simpa using H⟩
/-- The merge in place. -/
theorem symMerge_hp (g : Nat) (eg : ∀ args w, (callFunc g args).run Tryd.prog w = .ok (.enter g args) w) (HC : Hid (∀ (W : World) (x y : Lease), Calls Tryd.prog g #[valL x, valL y] W fun e w' => e = .returned (.int .i64 (cmpZ x y)) ∧ Below W.heap.size W w')) (A : Option Addr) (n c : Nat) (X : Ent) (w0 : World) (hn20 : n ≤ 1048576) : ∀ (N a m b : Nat) (P U V S : List Lease) (w : World), b - a ≤ N → Hp w0 w [rLs A n c (P ++ (U ++ (V ++ S))), X] → Hid (P.length = a ∧ a + U.length = m ∧ m + V.length = b ∧ b + S.length = n ∧ 0 < U.length ∧ 0 < V.length) → Hid (SoZ U ∧ SoZ V ∧ BeS (·.id) U V) → Calls Tryd.prog 89 #[.slice A n c, .int .i64 a, .int .i64 m, .int .i64 b, .func (.func g) #[] #[]] w fun e w' => e = .returned (.tuple #[]) ∧ ∃ Z, Z.Perm (U ++ V) ∧ SoZ Z ∧ Hp w0 w' [rLs A n c (P ++ (Z ++ S)), X]
  | 0, a, m, b, P, U, V, S, w, hN, H, hl, hs => by have := hl.out; omega
  | N + 1, a, m, b, P, U, V, S, w, hN, H, hl, hs => by
    by_cases h1 : m = a + 1
    · exact symA_hp g eg HC A n c X w0 hn20 a m b P U V S w H hl hs h1
    by_cases h2 : b = m + 1
    · exact symB_hp g eg HC A n c X w0 hn20 a m b P U V S w H hl hs (by have := hl.out; omega) h2
    exact symC_hp g eg HC A n c X w0 hn20 a m b P U V S w H hl hs (by have := hl.out; omega) (by have := hl.out; omega) (fun a' m' b' P U V S w hlt H hl hs => symMerge_hp g eg HC A n c X w0 hn20 N a' m' b' P U V S w (by omega) H hl hs)
end Go.Proofs.YtlmmeeeoljlgcaaDoor

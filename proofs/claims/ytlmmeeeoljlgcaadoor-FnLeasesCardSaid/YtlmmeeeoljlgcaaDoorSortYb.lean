/- Merging in place: one lease behind the part. No condition. -/
import Derived.Test.YtlmmeeeoljlgcaaDoorSortYa
import Derived.Deep.DeepCutAuto
set_option linter.unusedVariables false
set_option linter.unusedSimpArgs false
namespace Go.Proofs.YtlmmeeeoljlgcaaDoor
open Go.RowKit
set_option linter.unusedVariables false
set_option linter.unusedSimpArgs false
set_option maxHeartbeats 8000000 in
set_option maxRecDepth 10000 in
theorem symB_hp (g : Nat) (eg : ∀ args w, (callFunc g args).run Tryd.prog w = .ok (.enter g args) w) (HC : Hid (∀ (W : World) (x y : Lease), Calls Tryd.prog g #[valL x, valL y] W fun e w' => e = .returned (.int .i64 (cmpZ x y)) ∧ Below W.heap.size W w')) (A : Option Addr) (n c : Nat) (X : Ent) (w0 : World) (hn20 : n ≤ 1048576) (a m b : Nat) (P U V S : List Lease) (w : World) (H : Hp w0 w [rLs A n c (P ++ (U ++ (V ++ S))), X]) (hl : Hid (P.length = a ∧ a + U.length = m ∧ m + V.length = b ∧ b + S.length = n ∧ 0 < U.length ∧ 0 < V.length)) (hs : Hid (SoZ U ∧ SoZ V ∧ BeS (·.id) U V)) (h0 : a + 1 < m) (h1 : b = m + 1) :
    Calls Tryd.prog 89 #[.slice A n c, .int .i64 a, .int .i64 m, .int .i64 b, .func (.func g) #[] #[]] w fun e w' => e = .returned (.tuple #[]) ∧ ∃ Z, Z.Perm (U ++ V) ∧ SoZ Z ∧ Hp w0 w' [rLs A n c (P ++ (Z ++ S)), X] := by
  obtain ⟨v, rfl⟩ : ∃ v, V = [v] := by
    have h2 := hl.out
    match V, h2 with
    | [], h2 => simp at h2
    | [v], _ => exact ⟨v, rfl⟩
    | _ :: _ :: _, h2 => simp at h2; omega
  subst h1
  have hbn : m + 1 ≤ n := by have := hl.out; omega
  obtain ⟨d, hd⟩ : ∃ d, m - a = d := ⟨_, rfl⟩
  have hw0 : IntKind.i64.wrap ((m : Int) - (a : Int)) = (d : Int) := by rw [IntKind.wrap_i64]; omega
  have hd1 : ¬ (d : Int) = 1 := by omega
  have hd2 : ((d : Int) == 1) = false := by simp; omega
  have hw1 : IntKind.i64.wrap (((m : Int) + 1) - (m : Int)) = 1 := by rw [IntKind.wrap_i64]; omega
  have ham : a < m := by omega
  clear hd h0
  go_enter Tryd.func89, Tryd.ntmps89
  go_wp2_with fail
  have HH := Lib.hid H; clear H
  go_loopw [14, 15, 16] (fun i j s16 wr => ∃ i1 j1 : Nat, i = .int .i64 i1 ∧ j = .int .i64 j1 ∧ a ≤ i1 ∧ i1 ≤ j1 ∧ j1 ≤ m ∧ Hid (∀ u, (U.take (i1 - a)).getLast? = some u → ¬ v.ends < u.ends) ∧ Hid (∀ u, (U.drop (j1 - a)).head? = some u → v.ends < u.ends) ∧ Hid (Hp w0 wr [rLs A n c (P ++ (U ++ ([v] ++ S))), X])) (fun i j _ _ => (intOf j).toNat - (intOf i).toNat)
  case atStart =>
    refine ⟨a, m, rfl, rfl, Nat.le_refl _, by omega, Nat.le_refl _, ?_, ?_, HH⟩
    · intro u h; rw [Nat.sub_self, List.take_zero] at h; cases h
    · intro u h; rw [List.drop_eq_nil_of_le (by have := hl.out; omega)] at h; cases h
  case round =>
    clear HH
    obtain ⟨i1, j1, rfl, rfl, hai, hij, hjb, HLo, HHi, HP⟩ := hrel
    have H := HP.out
    by_cases hlt : i1 < j1
    · obtain ⟨k, hk⟩ : ∃ k, (i1 + j1) / 2 = k := ⟨_, rfl⟩
      have hki : i1 ≤ k ∧ k < j1 := by omega
      have hkk : ((i1 : Int) + (j1 : Int)) / 2 = (k : Int) := by omega
      obtain ⟨t, ht⟩ : ∃ t, k = a + t := ⟨k - a, by omega⟩
      have htv : t < U.length := by have := hl.out; omega
      obtain ⟨u, hv⟩ : ∃ u, U[t] = u := ⟨_, rfl⟩
      obtain ⟨xs, hxs⟩ : ∃ xs, P ++ (U ++ ([v] ++ S)) = xs := ⟨_, rfl⟩
      have HLN : Hid (xs.length = n) := by have := hl.out; show _ = _; rw [← hxs]; simp at this ⊢; omega
      have hkn : k < xs.length := by have := HLN.out; omega
      have han : m < xs.length := by have := HLN.out; omega
      have HXQ : Hid (xs[k] = u) := by
        show _ = _
        subst ht
        exact get_at3 hxs hl.out.1 htv hv hkn
      have HXP : Hid (xs[m] = v) := get_at3 (P := P ++ U) (U := [v]) (R := S) (k := 0) (by rw [← hxs]; simp) (by have := hl.out; rw [List.length_append]; omega) (by simp) rfl (by simpa using han)
      rw [hxs] at H
      obtain ⟨g1, rfl⟩ := rowGl (H.rowM List.mem_cons_self) (by omega)
      have hk1 : (k : Int) < (n : Int) := by have := HLN.out; omega
      have ha1 : (m : Int) < (n : Int) := by omega
      have hk0 : (0 : Int) ≤ (k : Int) := by omega
      have hij1 : (i1 : Int) < (j1 : Int) := by omega
      have hj9 : j1 ≤ 1048576 := by omega
      by_cases hc : v.ends < u.ends
      · have HCZ := Lib.hid (cmpZ_lt hc)
        have HN : Hid (∀ u, (U.drop (k - a)).head? = some u → v.ends < u.ends) := by
          intro u' h'
          obtain ⟨h8, h9⟩ := head_drop h'
          have : u' = u := by rw [← h9, ← hv]; congr 1; omega
          rw [this]; exact hc
        have HM : Hid (i1 ≤ k ∧ k ≤ m ∧ k - i1 < j1 - i1) := ⟨by omega, by omega, by omega⟩
        clear hk hki ht htv hv hc hlt HP
        go_upto_region 17 with fail
        (refine wp_region_quiet (C := fun W => Hp w0 W [rLs (some ⟨g1, 0, none⟩) n c xs, X]) (by kernel_rfl) (by kernel_rfl) (by show Hp _ (World.drew _) _; exact (by repeat (first | (with_reducible exact H) | (with_reducible apply Hp.alloc) | (with_reducible apply Hp.set) | (with_reducible apply Hp.drew) | (with_reducible apply Hp.drewN) | (with_reducible apply Hp.bytesW) | (with_reducible exact Upd.here) | (with_reducible exact Upd.hereR) | (with_reducible apply Upd.there) | (with_reducible apply Sz.alloc) | (with_reducible apply Sz.set) | (with_reducible apply Sz.drew) | (with_reducible apply Sz.drewN) | (with_reducible apply Sz.bytesW) | (with_reducible assumption) | (with_reducible exact Sz.base _)))) ?_; (repeat (first | go_big_quiet_skip | (refine BigFrame.wpQuiet_want (by rfl) (fun K hK => ?_); unfold Oper.quiet; apply Exists.intro; refine ⟨fun W hW => ?_, hK _ ?_⟩; (focus (have G := hW.facts; simp only [Facts, NeF, box, row, reg, cellsF, ne_eq, true_and, and_true, Nat.reduceAdd, Nat.zero_add] at G; obtain ⟨ca0, ca1, ca2, ca3, ca4, ca5⟩ := lsAt hW List.mem_cons_self HLN.out (k := m) (by omega); obtain ⟨cb0, cb1, cb2, cb3, cb4, cb5⟩ := lsAt hW List.mem_cons_self HLN.out (k := k) (by omega); rw [HXP.out] at ca0 ca1 ca2 ca3 ca4 ca5; rw [HXQ.out] at cb0 cb1 cb2 cb3 cb4 cb5; go_simp; first | rfl | (go_at_fn g; refine (HC.out _ v u).mono ?_; rintro e w' ⟨rfl, hb⟩; rw [HCZ.out]; exact ⟨rfl, hW.step hb⟩))); clear hK K; simp only [Act.put, List.setIfInBounds_toArray, List.set_cons_zero, List.set_cons_succ]))); refine wpQuiet_nil ?_; intro wq H; have F := H.facts; simp only [Facts, NeF, box, row, reg, cellsF, ne_eq, true_and, and_true, Nat.reduceAdd, Nat.zero_add] at F)
        all_goals
          go_wp2_with fail
          go_roundw
          case rel => exact ⟨i1, k, rfl, by go_num, hai, HM.out.1, HM.out.2.1, HLo, HN, Lib.hid (Hp.intoL (by repeat (first | (with_reducible exact H) | (with_reducible apply Hp.alloc) | (with_reducible apply Hp.set) | (with_reducible apply Hp.drew) | (with_reducible apply Hp.drewN) | (with_reducible apply Hp.bytesW) | (with_reducible exact Upd.here) | (with_reducible exact Upd.hereR) | (with_reducible apply Upd.there) | (with_reducible apply Sz.alloc) | (with_reducible apply Sz.set) | (with_reducible apply Sz.drew) | (with_reducible apply Sz.drewN) | (with_reducible apply Sz.bytesW) | (with_reducible assumption) | (with_reducible exact Sz.base _))) fun H9 => by rw [hxs]; exact H9)⟩
          case measure => have := HM.out.2.2; simp [intOf]; omega
      · obtain ⟨r, hr, hr0⟩ := cmpZ_ge hc
        have HCZ := Lib.hid hr
        have hrd : decide (r < 0) = false := decide_eq_false hr0
        have HN : Hid (∀ u, (U.take (k + 1 - a)).getLast? = some u → ¬ v.ends < u.ends) := by
          intro u' h'
          obtain ⟨-, h8, h9⟩ := last_take (by omega) h'
          have : u' = u := by rw [← h9, ← hv]; congr 1; omega
          rw [this]; exact hc
        have HM : Hid (a ≤ k + 1 ∧ k + 1 ≤ j1 ∧ j1 - (k + 1) < j1 - i1) := ⟨by omega, by omega, by omega⟩
        clear hk hki ht htv hv hc hlt HP hr
        go_upto_region 17 with fail
        (refine wp_region_quiet (C := fun W => Hp w0 W [rLs (some ⟨g1, 0, none⟩) n c xs, X]) (by kernel_rfl) (by kernel_rfl) (by show Hp _ (World.drew _) _; exact (by repeat (first | (with_reducible exact H) | (with_reducible apply Hp.alloc) | (with_reducible apply Hp.set) | (with_reducible apply Hp.drew) | (with_reducible apply Hp.drewN) | (with_reducible apply Hp.bytesW) | (with_reducible exact Upd.here) | (with_reducible exact Upd.hereR) | (with_reducible apply Upd.there) | (with_reducible apply Sz.alloc) | (with_reducible apply Sz.set) | (with_reducible apply Sz.drew) | (with_reducible apply Sz.drewN) | (with_reducible apply Sz.bytesW) | (with_reducible assumption) | (with_reducible exact Sz.base _)))) ?_; (repeat (first | go_big_quiet_skip | (refine BigFrame.wpQuiet_want (by rfl) (fun K hK => ?_); unfold Oper.quiet; apply Exists.intro; refine ⟨fun W hW => ?_, hK _ ?_⟩; (focus (have G := hW.facts; simp only [Facts, NeF, box, row, reg, cellsF, ne_eq, true_and, and_true, Nat.reduceAdd, Nat.zero_add] at G; obtain ⟨ca0, ca1, ca2, ca3, ca4, ca5⟩ := lsAt hW List.mem_cons_self HLN.out (k := m) (by omega); obtain ⟨cb0, cb1, cb2, cb3, cb4, cb5⟩ := lsAt hW List.mem_cons_self HLN.out (k := k) (by omega); rw [HXP.out] at ca0 ca1 ca2 ca3 ca4 ca5; rw [HXQ.out] at cb0 cb1 cb2 cb3 cb4 cb5; go_simp; first | rfl | (go_at_fn g; refine (HC.out _ v u).mono ?_; rintro e w' ⟨rfl, hb⟩; rw [HCZ.out]; exact ⟨rfl, hW.step hb⟩))); clear hK K; simp only [Act.put, List.setIfInBounds_toArray, List.set_cons_zero, List.set_cons_succ]))); refine wpQuiet_nil ?_; intro wq H; have F := H.facts; simp only [Facts, NeF, box, row, reg, cellsF, ne_eq, true_and, and_true, Nat.reduceAdd, Nat.zero_add] at F)
        all_goals
          go_wp2_with fail
          go_roundw
          case rel => exact ⟨k + 1, j1, by go_num, rfl, HM.out.1, HM.out.2.1, hjb, HN, HHi, Lib.hid (Hp.intoL (by repeat (first | (with_reducible exact H) | (with_reducible apply Hp.alloc) | (with_reducible apply Hp.set) | (with_reducible apply Hp.drew) | (with_reducible apply Hp.drewN) | (with_reducible apply Hp.bytesW) | (with_reducible exact Upd.here) | (with_reducible exact Upd.hereR) | (with_reducible apply Upd.there) | (with_reducible apply Sz.alloc) | (with_reducible apply Sz.set) | (with_reducible apply Sz.drew) | (with_reducible apply Sz.drewN) | (with_reducible apply Sz.bytesW) | (with_reducible assumption) | (with_reducible exact Sz.base _))) fun H9 => by rw [hxs]; exact H9)⟩
          case measure => have := HM.out.2.2; simp [intOf]; omega
    · obtain rfl : i1 = j1 := by omega
      obtain ⟨U1, U2, rfl, hv1, hv2, hvl⟩ : ∃ U1 U2, U = U1 ++ U2 ∧ (∀ u, U1.getLast? = some u → ¬ v.ends < u.ends) ∧ (∀ u, U2.head? = some u → v.ends < u.ends) ∧ a + U1.length = i1 := ⟨U.take (i1 - a), U.drop (i1 - a), (List.take_append_drop _ _).symm, HLo.out, HHi.out, by have := hl.out; rw [List.length_take]; omega⟩
      have HZ := Lib.hid (put_last (en := (·.ends)) (id := (·.id)) (v := v) (U1 := U1) (U2 := U2) hs.out.1 (fun u hu => hs.out.2.2 u hu v (List.mem_singleton.2 rfl)) hv1 hv2)
      have hi1 : ¬ (i1 : Int) < (i1 : Int) := by omega
      have HE : Hid ((P ++ U1).length = i1 ∧ i1 + U2.length = m ∧ m + 1 + S.length = n) := by have h9 := hl.out; simp at h9 ⊢; exact ⟨by omega, by omega, by omega⟩
      have hm9 : m ≤ 1048576 := by omega
      clear HLo HHi hv1 hv2 hlt HP hvl hai hij hl
      go_wp2_with fail
      have HH := Lib.hid H; clear H
      go_loopw [17] (fun i wr => ∃ k : Nat, i = .int .i64 k ∧ i1 ≤ k ∧ k ≤ m ∧ ∃ Ua Ub, Hid (U2 = Ua ++ Ub ∧ i1 + Ua.length = k) ∧ Hid (Hp w0 wr [rLs A n c ((P ++ U1) ++ (Ua ++ (v :: (Ub ++ S)))), X])) (fun i _ => (intOf i).toNat)
      case atStart => exact ⟨m, rfl, by omega, Nat.le_refl _, U2, [], ⟨(List.append_nil _).symm, HE.out.2.1⟩, by simpa using HH⟩
      case round =>
        clear HH
        obtain ⟨k, rfl, hik, hkm, Ua, Ub, HX, HP⟩ := hrel
        have H := HP.out
        by_cases hlt : i1 < k
        · obtain ⟨x1, x2⟩ := HX.out
          have hua : Ua ≠ [] := by rintro rfl; simp at x2; omega
          obtain ⟨Uc, y, rfl⟩ : ∃ Uc y, Ua = Uc ++ [y] := ⟨Ua.dropLast, Ua.getLast hua, (List.dropLast_concat_getLast hua).symm⟩
          obtain ⟨p, hp⟩ : ∃ p, k = p + 1 := ⟨k - 1, by omega⟩
          have hpl : ((P ++ U1) ++ Uc).length = p := by rw [List.length_append, HE.out.1]; simp at x2; omega
          obtain ⟨xs, hxs⟩ : ∃ xs, (P ++ U1) ++ (Uc ++ [y] ++ (v :: (Ub ++ S))) = xs := ⟨_, rfl⟩
          have e3 : xs = ((P ++ U1) ++ Uc) ++ y :: (v :: (Ub ++ S)) := by rw [← hxs]; simp
          have HLN : Hid (xs.length = n) := by
            have h9 := HE.out.2
            show _ = _
            rw [e3, List.length_append, hpl]
            rw [x1] at h9
            simp at h9 x2 ⊢
            omega
          have hpn : p < xs.length := by rw [e3, List.length_append, hpl]; simp
          have hqn : k < xs.length := by rw [e3, List.length_append, hpl, hp]; simp
          have HXQ : Hid (xs[p] = y) := by show _ = _; subst e3; exact get_mid hpl hpn
          have HXP : Hid (xs[k] = v) := by
            show _ = _
            have e4 : xs = (((P ++ U1) ++ Uc) ++ [y]) ++ v :: (Ub ++ S) := by rw [e3]; simp
            subst e4
            exact get_mid (by rw [List.length_append, hpl, hp]; rfl) hqn
          have HNX : Hid ((xs.set k y).set p v = (P ++ U1) ++ (Uc ++ (v :: ((y :: Ub) ++ S)))) := by
            have h9 := swap_dn (A := (P ++ U1) ++ Uc) (B := []) (C := Ub ++ S) (x := y) (z := v)
            rw [hpl] at h9
            show _ = _
            rw [e3, hp]
            simpa using h9
          have HX2 : Hid (U2 = Uc ++ (y :: Ub) ∧ i1 + Uc.length = p) := ⟨by rw [x1]; simp, by simp at x2; omega⟩
          rw [hxs] at H
          have hkk1 : (i1 : Int) < (k : Int) := by omega
          have hwp : IntKind.i64.wrap ((k : Int) - 1) = (p : Int) := by rw [IntKind.wrap_i64]; omega
          have hp1 : (p : Int) < (n : Int) := by have := HLN.out; omega
          have hq1 : (k : Int) < (n : Int) := by have := HLN.out; omega
          have hp0 : (0 : Int) ≤ (p : Int) := by omega
          have hq0 : (0 : Int) ≤ (k : Int) := by omega
          have HM : Hid (i1 ≤ p ∧ p ≤ m) := ⟨by omega, by omega⟩
          have hpk : p < k := by omega
          obtain ⟨g1, rfl⟩ := rowGl (H.rowM List.mem_cons_self) (by omega)
          obtain ⟨ca0, ca1, ca2, ca3, ca4, ca5⟩ := lsAt H List.mem_cons_self HLN.out (k := k) (by omega)
          obtain ⟨cb0, cb1, cb2, cb3, cb4, cb5⟩ := lsAt H List.mem_cons_self HLN.out (k := p) (by omega)
          rw [HXP.out] at ca0 ca1 ca2 ca3 ca4 ca5
          rw [HXQ.out] at cb0 cb1 cb2 cb3 cb4 cb5
          have hfz := fun j => (H.rowM (List.mem_cons_self)).frozenAt (g := g1) j
          have fa0 := hfz (k * 6)
          have fb0 := hfz (p * 6)
          have fa1 := hfz (k * 6 + 1)
          have fb1 := hfz (p * 6 + 1)
          have fa2 := hfz (k * 6 + 2)
          have fb2 := hfz (p * 6 + 2)
          have fa3 := hfz (k * 6 + 3)
          have fb3 := hfz (p * 6 + 3)
          have fa4 := hfz (k * 6 + 4)
          have fb4 := hfz (p * 6 + 4)
          have fa5 := hfz (k * 6 + 5)
          have fb5 := hfz (p * 6 + 5)
          clear hfz
          have hof : (¬ k = p ∧ ¬ p = k) ∧ (¬ k * 6 + 1 = p * 6 ∧ ¬ p * 6 = k * 6 + 1 ∧ ¬ k * 6 + 2 = p * 6 ∧ ¬ p * 6 = k * 6 + 2 ∧ ¬ k * 6 + 3 = p * 6 ∧ ¬ p * 6 = k * 6 + 3 ∧ ¬ k * 6 + 4 = p * 6 ∧ ¬ p * 6 = k * 6 + 4 ∧ ¬ k * 6 + 5 = p * 6 ∧ ¬ p * 6 = k * 6 + 5 ∧ ¬ p * 6 + 1 = k * 6 ∧ ¬ k * 6 = p * 6 + 1 ∧ ¬ p * 6 + 2 = k * 6 ∧ ¬ k * 6 = p * 6 + 2 ∧ ¬ p * 6 + 3 = k * 6 ∧ ¬ k * 6 = p * 6 + 3 ∧ ¬ p * 6 + 4 = k * 6 ∧ ¬ k * 6 = p * 6 + 4 ∧ ¬ p * 6 + 5 = k * 6 ∧ ¬ k * 6 = p * 6 + 5) := by omega
          have HSE := Lib.hid (swap_ent (A := some ⟨g1, 0, none⟩) (n := n) (c := c) (x := v) (z := y) hqn hpn)
          clear x1 x2 hpl hxs e3 hp HXP HXQ hpn hqn hlt HP HX
          go_upto_region 23 with fail
          go_region
          go_wp2_with fail
          go_roundw
          case rel => exact ⟨p, rfl, HM.out.1, HM.out.2, Uc, y :: Ub, HX2, Lib.hid (Hp.intoL (by repeat (first | (with_reducible exact H) | (with_reducible apply Hp.alloc) | (with_reducible apply Hp.set) | (with_reducible apply Hp.drew) | (with_reducible apply Hp.drewN) | (with_reducible apply Hp.bytesW) | (with_reducible exact Upd.here) | (with_reducible exact Upd.hereR) | (with_reducible apply Upd.there) | (with_reducible apply Sz.alloc) | (with_reducible apply Sz.set) | (with_reducible apply Sz.drew) | (with_reducible apply Sz.drewN) | (with_reducible apply Sz.bytesW) | (with_reducible assumption) | (with_reducible exact Sz.base _))) fun H9 => by
            rw [HSE.out, HNX.out] at H9
            exact H9)⟩
          case measure => simp [intOf]; omega
        · have hua : Ua = [] := by
            have h8 := HX.out.2
            exact List.eq_nil_of_length_eq_zero (by omega)
          subst hua
          have hva : U2 = Ub := by have := HX.out.1; rwa [List.nil_append] at this
          subst hva
          have hk1 : ¬ (i1 : Int) < (k : Int) := by omega
          clear hlt HX HP
          go_wp2_with fail
          refine bodyPost_ret (v := .tuple #[]) (by simp [results, Tryd.results89, go_sem]) rfl ⟨rfl, U1 ++ v :: U2, (by rw [← List.append_assoc]; exact HZ.out.2), HZ.out.1, Hp.intoL (by repeat (first | (with_reducible exact H) | (with_reducible apply Hp.alloc) | (with_reducible apply Hp.set) | (with_reducible apply Hp.drew) | (with_reducible apply Hp.drewN) | (with_reducible apply Hp.bytesW) | (with_reducible exact Upd.here) | (with_reducible exact Upd.hereR) | (with_reducible apply Upd.there) | (with_reducible apply Sz.alloc) | (with_reducible apply Sz.set) | (with_reducible apply Sz.drew) | (with_reducible apply Sz.drewN) | (with_reducible apply Sz.bytesW) | (with_reducible assumption) | (with_reducible exact Sz.base _))) fun H9 => by simpa using H9⟩
end Go.Proofs.YtlmmeeeoljlgcaaDoor

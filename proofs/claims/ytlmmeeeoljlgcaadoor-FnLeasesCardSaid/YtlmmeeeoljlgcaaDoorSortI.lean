/- The insertion sort of leases in place, by Ends. No condition. -/
import Derived.Test.YtlmmeeeoljlgcaaDoorSortM
import Derived.Deep.DeepCutAuto
set_option linter.unusedVariables false
set_option linter.unusedSimpArgs false
namespace Go.Proofs.YtlmmeeeoljlgcaaDoor
open Go.RowKit
set_option linter.unusedVariables false
set_option linter.unusedSimpArgs false
abbrev valL (x : Lease) : Value := .agg #[.int .i64 x.id, .int .i64 x.token, .string x.path, .int .i64 x.made, .int .i64 x.ends, .int .i64 x.limit]
def cmpZ (x y : Lease) : Int := if x.ends < y.ends then -1 else if y.ends < x.ends then 1 else 0
theorem cmpZ_lt {x y : Lease} (h : x.ends < y.ends) : cmpZ x y = -1 := by rw [cmpZ, if_pos h]
theorem cmpZ_ge {x y : Lease} (h : ¬ x.ends < y.ends) : ∃ r : Int, cmpZ x y = r ∧ ¬ r < 0 := by
  rw [cmpZ, if_neg h]
  split
  · exact ⟨1, rfl, by decide⟩
  · exact ⟨0, rfl, by decide⟩
abbrev LtZ := ltZ (α := Lease) (·.ends) (·.id)
abbrev SoZ := SoS (α := Lease) (·.ends) (·.id)
theorem take_one {Q : List Lease} : SoZ (Q.take 1) := by
  match Q with
  | [] => exact List.Pairwise.nil
  | [x] => exact List.pairwise_singleton _ _
  | x :: _ :: _ => exact List.pairwise_singleton _ _
set_option maxHeartbeats 8000000 in
set_option maxRecDepth 10000 in
theorem insSort_hp (g : Nat) (eg : ∀ args w, (callFunc g args).run Tryd.prog w = .ok (.enter g args) w) (HC : Hid (∀ (W : World) (x y : Lease), Calls Tryd.prog g #[valL x, valL y] W fun e w' => e = .returned (.int .i64 (cmpZ x y)) ∧ Below W.heap.size W w')) (A : Option Addr) (n c a b : Nat) (P Q S : List Lease) (X : Ent) (w0 w : World) (H : Hp w0 w [rLs A n c (P ++ (Q ++ S)), X]) (hl : Hid (P.length = a ∧ a + Q.length = b ∧ b + S.length = n)) (HQ : Hid (Q.Pairwise fun x y => x.id < y.id)) (hn20 : n ≤ 1048576) :
    Calls Tryd.prog 88 #[.slice A n c, .int .i64 a, .int .i64 b, .func (.func g) #[] #[]] w fun e w' => e = .returned (.tuple #[]) ∧ ∃ Z, Z.Perm Q ∧ SoZ Z ∧ Hp w0 w' [rLs A n c (P ++ (Z ++ S)), X] := by
  have hab : a ≤ b := by have := hl.out; omega
  have hbn : b ≤ n := by have := hl.out; omega
  go_enter Tryd.func88, Tryd.ntmps88
  go_wp2_with fail
  have HH := Lib.hid H; clear H
  go_loopw [8, 9] (fun i s9 wr => ∃ k : Nat, i = .int .i64 k ∧ a + 1 ≤ k ∧ (k ≤ b ∨ k = a + 1) ∧ ∃ Z1, Hid (Z1.Perm (Q.take (k - a)) ∧ SoZ Z1) ∧ Hid (Hp w0 wr [rLs A n c (P ++ (Z1 ++ (Q.drop (k - a) ++ S))), X])) (fun i _ _ => b - (intOf i).toNat)
  case atStart =>
    refine ⟨a + 1, by go_num, Nat.le_refl _, .inr rfl, Q.take 1, ?_, ?_⟩
    · rw [show a + 1 - a = 1 by omega]; exact ⟨List.Perm.refl _, take_one⟩
    · rw [show a + 1 - a = 1 by omega, ← List.append_assoc (Q.take 1), List.take_append_drop]; exact HH
  case round =>
    clear HH
    obtain ⟨k, rfl, hak, hkb, Z1, HZ, HP⟩ := hrel
    have H := HP.out
    by_cases hlt : k < b
    · have hkq : k - a < Q.length := by have := hl.out; omega
      obtain ⟨q, hq⟩ : ∃ q, Q[k - a] = q := ⟨_, rfl⟩
      have hdr : Q.drop (k - a) = q :: Q.drop (k + 1 - a) := by rw [List.drop_eq_getElem_cons hkq, hq, show k + 1 - a = k - a + 1 by omega]
      have htk : Q.take (k + 1 - a) = Q.take (k - a) ++ [q] := by rw [show k + 1 - a = k - a + 1 by omega, List.take_succ_eq_append_getElem hkq, hq]
      have hzl : Z1.length = k - a := by rw [HZ.out.1.length_eq, List.length_take]; omega
      have HID : Hid (∀ z ∈ Z1, z.id < q.id) := fun z hz => by
        have h1 := HZ.out.1.mem_iff.1 hz
        obtain ⟨t, ht, rfl⟩ := List.getElem_of_mem h1
        rw [List.getElem_take, ← hq]
        rw [List.length_take] at ht
        exact List.pairwise_iff_getElem.1 HQ.out t (k - a) (by omega) hkq (by omega)
      have HTK := Lib.hid htk
      have HZL := Lib.hid hzl
      rw [hdr] at H
      obtain ⟨rest, hrest⟩ : ∃ r, Q.drop (k + 1 - a) ++ S = r := ⟨_, rfl⟩
      have HRS := Lib.hid hrest
      have hrl : (b - (k + 1)) + S.length = rest.length := by rw [← hrest, List.length_append, List.length_drop]; have := hl.out; omega
      have HRL : Hid (P.length + (k - a) + 1 + rest.length = n) := by have := hl.out; show _ = _; omega
      rw [List.cons_append, hrest] at H
      have hk1 : (k : Int) < (b : Int) := by omega
      have HK1 : Hid (a + 1 ≤ k + 1 ∧ k + 1 ≤ b ∧ b - (k + 1) < b - k) := ⟨by omega, by omega, by omega⟩
      have hk9 : k ≤ 1048576 := by omega
      clear hlt hkq hq hdr htk hzl hrest hrl hkb
      go_wp2_with fail
      have HH := Lib.hid H; clear H HP
      go_loopw [9] (fun i wr => ∃ j : Nat, i = .int .i64 j ∧ a ≤ j ∧ j ≤ k ∧ ∃ Za Zb, Hid (Z1 = Za ++ Zb ∧ P.length + Za.length = j ∧ ∀ u, Zb.head? = some u → q.ends < u.ends) ∧ Hid (Hp w0 wr [rLs A n c (P ++ (Za ++ (q :: (Zb ++ rest)))), X])) (fun i _ => (intOf i).toNat)
      case atStart =>
        refine ⟨k, rfl, by omega, Nat.le_refl _, Z1, [], ⟨(List.append_nil _).symm, ?_, fun u h => by cases h⟩, HH⟩
        have := HZL.out; have := hl.out; omega
      case round =>
        clear HH
        obtain ⟨j, rfl, haj, hjk, Za, Zb, HX, HP⟩ := hrel
        have H := HP.out
        have hpa : P.length = a := hl.out.1
        by_cases hza : Za = []
        · subst hza
          obtain rfl : j = a := by have := HX.out.2.1; simp at this; omega
          have HN : Hid ((q :: Zb).Perm (Q.take (k + 1 - j)) ∧ SoZ (q :: Zb)) := by
            have h1 := HX.out.1
            rw [List.nil_append] at h1
            have h9 := put_last (en := (·.ends)) (id := (·.id)) (v := q) (U1 := []) (U2 := Zb) (by rw [List.nil_append, ← h1]; exact HZ.out.2) (by rw [List.nil_append, ← h1]; exact HID.out) (fun u h => by cases h) HX.out.2.2
            rw [HTK.out]
            refine ⟨?_, h9.1⟩
            refine h9.2.trans ?_
            rw [List.nil_append, ← h1]
            exact HZ.out.1.append_right _
          clear HX HZ HID hpa HP
          go_wp2_with fail
          try go_region
          all_goals
            go_wp2_with fail
            go_roundw
            case rel => exact ⟨k + 1, by go_num, HK1.out.1, .inl HK1.out.2.1, q :: Zb, HN, Lib.hid (Hp.intoL (by repeat (first | (with_reducible exact H) | (with_reducible apply Hp.alloc) | (with_reducible apply Hp.set) | (with_reducible apply Hp.drew) | (with_reducible apply Hp.drewN) | (with_reducible apply Hp.bytesW) | (with_reducible exact Upd.here) | (with_reducible exact Upd.hereR) | (with_reducible apply Upd.there) | (with_reducible apply Sz.alloc) | (with_reducible apply Sz.set) | (with_reducible apply Sz.drew) | (with_reducible apply Sz.drewN) | (with_reducible apply Sz.bytesW) | (with_reducible assumption) | (with_reducible exact Sz.base _))) fun H9 => by rw [← HRS.out] at H9; simpa using H9)⟩
            case measure => have := HK1.out.2.2; simp [intOf]; omega
        · obtain ⟨Zc, y, rfl⟩ : ∃ Zc y, Za = Zc ++ [y] := ⟨Za.dropLast, Za.getLast hza, (List.dropLast_concat_getLast hza).symm⟩
          obtain ⟨x1, x2, x3⟩ := HX.out
          obtain ⟨p, hp⟩ : ∃ p, j = p + 1 := ⟨j - 1, by rw [List.length_append] at x2; simp at x2; omega⟩
          have hpl : (P ++ Zc).length = p := by rw [List.length_append]; rw [List.length_append] at x2; simp at x2; omega
          have hzz : Zc.length + 1 + Zb.length = k - a := by have := HZL.out; rw [x1] at this; simp at this; omega
          obtain ⟨xs, hxs⟩ : ∃ xs, P ++ (Zc ++ [y] ++ (q :: (Zb ++ rest))) = xs := ⟨_, rfl⟩
          have e3 : xs = (P ++ Zc) ++ y :: (q :: (Zb ++ rest)) := by rw [← hxs]; simp
          have HLN : Hid (xs.length = n) := by have := HRL.out; show _ = _; rw [e3, List.length_append, hpl]; simp; rw [List.length_append] at hpl; omega
          have hpn : p < xs.length := by rw [e3, List.length_append, hpl]; simp
          have hqn : j < xs.length := by rw [e3, List.length_append, hpl, hp]; simp
          have HXQ : Hid (xs[p] = y) := by subst e3; exact get_mid hpl hpn
          have HXP : Hid (xs[j] = q) := by
            show _ = _
            have e4 : xs = (P ++ (Zc ++ [y])) ++ q :: (Zb ++ rest) := by rw [← hxs]; simp
            subst e4
            exact get_mid (by rw [List.length_append]; exact x2) hqn
          rw [hxs] at H
          obtain ⟨g1, rfl⟩ := rowGl (H.rowM List.mem_cons_self) (by have := HLN.out; omega)
          have hgt : (a : Int) < (j : Int) := by rw [List.length_append] at hpl; omega
          have hj1 : (j : Int) < (n : Int) := by have := HLN.out; omega
          have hwj : IntKind.i64.wrap ((j : Int) - 1) = (p : Int) := by rw [IntKind.wrap_i64]; omega
          have hj2 : (p : Int) < (n : Int) := by omega
          have hj0 : (0 : Int) ≤ (j : Int) := by omega
          have hjp : (0 : Int) ≤ (p : Int) := by omega
          by_cases hc : q.ends < y.ends
          · have HCZ := Lib.hid (cmpZ_lt hc)
            have HSE := Lib.hid (swap_ent (A := some ⟨g1, 0, none⟩) (n := n) (c := c) (x := q) (z := y) hqn hpn)
            have HNX : Hid ((xs.set j y).set p q = P ++ (Zc ++ (q :: ((y :: Zb) ++ rest)))) := by
              have h9 := swap_dn (A := P ++ Zc) (B := []) (C := Zb ++ rest) (x := y) (z := q)
              rw [hpl] at h9
              show _ = _
              rw [e3, hp]
              simpa using h9
            have HX2 : Hid (Z1 = Zc ++ (y :: Zb) ∧ P.length + Zc.length = p ∧ ∀ u, (y :: Zb).head? = some u → q.ends < u.ends) := ⟨by rw [x1]; simp, by rw [List.length_append] at hpl; exact hpl, fun u h => by injection h with h; rw [← h]; exact hc⟩
            have HPJ : Hid (p < j) := by show _ < _; omega
            have HM : Hid (a ≤ p ∧ p ≤ k) := by rw [List.length_append] at hpl; exact ⟨by omega, by omega⟩
            clear x1 x2 x3 hpl hzz hxs e3 hza HX HP hp
            go_upto_region 4 with fail
            (refine wp_region_quiet (C := fun W => Hp w0 W [rLs (some ⟨g1, 0, none⟩) n c xs, X]) (by kernel_rfl) (by kernel_rfl) (by show Hp _ (World.drew _) _; exact (by repeat (first | (with_reducible exact H) | (with_reducible apply Hp.alloc) | (with_reducible apply Hp.set) | (with_reducible apply Hp.drew) | (with_reducible apply Hp.drewN) | (with_reducible apply Hp.bytesW) | (with_reducible exact Upd.here) | (with_reducible exact Upd.hereR) | (with_reducible apply Upd.there) | (with_reducible apply Sz.alloc) | (with_reducible apply Sz.set) | (with_reducible apply Sz.drew) | (with_reducible apply Sz.drewN) | (with_reducible apply Sz.bytesW) | (with_reducible assumption) | (with_reducible exact Sz.base _)))) ?_; (repeat (first | go_big_quiet_skip | (refine BigFrame.wpQuiet_want (by rfl) (fun K hK => ?_); unfold Oper.quiet; apply Exists.intro; refine ⟨fun W hW => ?_, hK _ ?_⟩; (focus (have G := hW.facts; simp only [Facts, NeF, box, row, reg, cellsF, ne_eq, true_and, and_true, Nat.reduceAdd, Nat.zero_add] at G; obtain ⟨ca0, ca1, ca2, ca3, ca4, ca5⟩ := lsAt hW List.mem_cons_self HLN.out (k := j) (by omega); obtain ⟨cb0, cb1, cb2, cb3, cb4, cb5⟩ := lsAt hW List.mem_cons_self HLN.out (k := p) (by omega); rw [HXP.out] at ca0 ca1 ca2 ca3 ca4 ca5; rw [HXQ.out] at cb0 cb1 cb2 cb3 cb4 cb5; go_simp; first | rfl | (go_at_fn g; refine (HC.out _ q y).mono ?_; rintro e w' ⟨rfl, hb⟩; rw [HCZ.out]; exact ⟨rfl, hW.step hb⟩))); clear hK K; simp only [Act.put, List.setIfInBounds_toArray, List.set_cons_zero, List.set_cons_succ]))); refine wpQuiet_nil ?_; intro wq H; have F := H.facts; simp only [Facts, NeF, box, row, reg, cellsF, ne_eq, true_and, and_true, Nat.reduceAdd, Nat.zero_add] at F)
            all_goals
              clear F
              have hpj := HPJ.out
              obtain ⟨ca0, ca1, ca2, ca3, ca4, ca5⟩ := lsAt H List.mem_cons_self HLN.out (k := j) (by omega)
              obtain ⟨cb0, cb1, cb2, cb3, cb4, cb5⟩ := lsAt H List.mem_cons_self HLN.out (k := p) (by omega)
              rw [HXP.out] at ca0 ca1 ca2 ca3 ca4 ca5
              rw [HXQ.out] at cb0 cb1 cb2 cb3 cb4 cb5
              have hfz := fun j => (H.rowM (List.mem_cons_self)).frozenAt (g := g1) j
              have fa0 := hfz (j * 6)
              have fb0 := hfz (p * 6)
              have fa1 := hfz (j * 6 + 1)
              have fb1 := hfz (p * 6 + 1)
              have fa2 := hfz (j * 6 + 2)
              have fb2 := hfz (p * 6 + 2)
              have fa3 := hfz (j * 6 + 3)
              have fb3 := hfz (p * 6 + 3)
              have fa4 := hfz (j * 6 + 4)
              have fb4 := hfz (p * 6 + 4)
              have fa5 := hfz (j * 6 + 5)
              have fb5 := hfz (p * 6 + 5)
              clear hfz
              have hof : (¬ j = p ∧ ¬ p = j) ∧ (¬ j * 6 + 1 = p * 6 ∧ ¬ p * 6 = j * 6 + 1 ∧ ¬ j * 6 + 2 = p * 6 ∧ ¬ p * 6 = j * 6 + 2 ∧ ¬ j * 6 + 3 = p * 6 ∧ ¬ p * 6 = j * 6 + 3 ∧ ¬ j * 6 + 4 = p * 6 ∧ ¬ p * 6 = j * 6 + 4 ∧ ¬ j * 6 + 5 = p * 6 ∧ ¬ p * 6 = j * 6 + 5 ∧ ¬ p * 6 + 1 = j * 6 ∧ ¬ j * 6 = p * 6 + 1 ∧ ¬ p * 6 + 2 = j * 6 ∧ ¬ j * 6 = p * 6 + 2 ∧ ¬ p * 6 + 3 = j * 6 ∧ ¬ j * 6 = p * 6 + 3 ∧ ¬ p * 6 + 4 = j * 6 ∧ ¬ j * 6 = p * 6 + 4 ∧ ¬ p * 6 + 5 = j * 6 ∧ ¬ j * 6 = p * 6 + 5) := by omega
              go_upto_region 6 with fail
              go_region
              go_wp2_with fail
              go_roundw
              case rel => exact ⟨p, rfl, HM.out.1, HM.out.2, Zc, y :: Zb, HX2, Lib.hid (Hp.intoL (by repeat (first | (with_reducible exact H) | (with_reducible apply Hp.alloc) | (with_reducible apply Hp.set) | (with_reducible apply Hp.drew) | (with_reducible apply Hp.drewN) | (with_reducible apply Hp.bytesW) | (with_reducible exact Upd.here) | (with_reducible exact Upd.hereR) | (with_reducible apply Upd.there) | (with_reducible apply Sz.alloc) | (with_reducible apply Sz.set) | (with_reducible apply Sz.drew) | (with_reducible apply Sz.drewN) | (with_reducible apply Sz.bytesW) | (with_reducible assumption) | (with_reducible exact Sz.base _))) fun H9 => by
                rw [HSE.out, HNX.out] at H9
                exact H9)⟩
              case measure => simp [intOf]; omega
          · obtain ⟨r, hr, hr0⟩ := cmpZ_ge hc
            have HCZ := Lib.hid hr
            have hrd : decide (r < 0) = false := decide_eq_false hr0
            have HN : Hid ((Zc ++ [y] ++ (q :: Zb)).Perm (Q.take (k + 1 - a)) ∧ SoZ (Zc ++ [y] ++ (q :: Zb))) := by
              have h9 := put_last (en := (·.ends)) (id := (·.id)) (v := q) (U1 := Zc ++ [y]) (U2 := Zb) (by rw [← x1]; exact HZ.out.2) (by rw [← x1]; exact HID.out) (fun u h => by rw [List.getLast?_concat] at h; injection h with h; rw [← h]; exact hc) x3
              rw [HTK.out]
              refine ⟨h9.2.trans ?_, h9.1⟩
              rw [← x1]
              exact HZ.out.1.append_right _
            have HXS : Hid (xs = P ++ (Zc ++ [y] ++ (q :: Zb) ++ (Q.drop (k + 1 - a) ++ S))) := by show _ = _; rw [HRS.out, ← hxs]; simp
            clear x1 x2 x3 hpl hzz hxs e3 hza HX HP hc hr hp
            go_upto_region 4 with fail
            (refine wp_region_quiet (C := fun W => Hp w0 W [rLs (some ⟨g1, 0, none⟩) n c xs, X]) (by kernel_rfl) (by kernel_rfl) (by show Hp _ (World.drew _) _; exact (by repeat (first | (with_reducible exact H) | (with_reducible apply Hp.alloc) | (with_reducible apply Hp.set) | (with_reducible apply Hp.drew) | (with_reducible apply Hp.drewN) | (with_reducible apply Hp.bytesW) | (with_reducible exact Upd.here) | (with_reducible exact Upd.hereR) | (with_reducible apply Upd.there) | (with_reducible apply Sz.alloc) | (with_reducible apply Sz.set) | (with_reducible apply Sz.drew) | (with_reducible apply Sz.drewN) | (with_reducible apply Sz.bytesW) | (with_reducible assumption) | (with_reducible exact Sz.base _)))) ?_; (repeat (first | go_big_quiet_skip | (refine BigFrame.wpQuiet_want (by rfl) (fun K hK => ?_); unfold Oper.quiet; apply Exists.intro; refine ⟨fun W hW => ?_, hK _ ?_⟩; (focus (have G := hW.facts; simp only [Facts, NeF, box, row, reg, cellsF, ne_eq, true_and, and_true, Nat.reduceAdd, Nat.zero_add] at G; obtain ⟨ca0, ca1, ca2, ca3, ca4, ca5⟩ := lsAt hW List.mem_cons_self HLN.out (k := j) (by omega); obtain ⟨cb0, cb1, cb2, cb3, cb4, cb5⟩ := lsAt hW List.mem_cons_self HLN.out (k := p) (by omega); rw [HXP.out] at ca0 ca1 ca2 ca3 ca4 ca5; rw [HXQ.out] at cb0 cb1 cb2 cb3 cb4 cb5; go_simp; first | rfl | (go_at_fn g; refine (HC.out _ q y).mono ?_; rintro e w' ⟨rfl, hb⟩; rw [HCZ.out]; exact ⟨rfl, hW.step hb⟩))); clear hK K; simp only [Act.put, List.setIfInBounds_toArray, List.set_cons_zero, List.set_cons_succ]))); refine wpQuiet_nil ?_; intro wq H; have F := H.facts; simp only [Facts, NeF, box, row, reg, cellsF, ne_eq, true_and, and_true, Nat.reduceAdd, Nat.zero_add] at F)
            all_goals
              go_wp2_with fail
              go_roundw
              case rel => exact ⟨k + 1, by go_num, HK1.out.1, .inl HK1.out.2.1, Zc ++ [y] ++ (q :: Zb), HN, Lib.hid (Hp.intoL (by repeat (first | (with_reducible exact H) | (with_reducible apply Hp.alloc) | (with_reducible apply Hp.set) | (with_reducible apply Hp.drew) | (with_reducible apply Hp.drewN) | (with_reducible apply Hp.bytesW) | (with_reducible exact Upd.here) | (with_reducible exact Upd.hereR) | (with_reducible apply Upd.there) | (with_reducible apply Sz.alloc) | (with_reducible apply Sz.set) | (with_reducible apply Sz.drew) | (with_reducible apply Sz.drewN) | (with_reducible apply Sz.bytesW) | (with_reducible assumption) | (with_reducible exact Sz.base _))) fun H9 => by rw [HXS.out] at H9; exact H9)⟩
              case measure => have := HK1.out.2.2; simp [intOf]; omega
    · have hkq : Q.length ≤ k - a := by have := hl.out; omega
      have HF : Hid (Z1.Perm Q ∧ SoZ Z1) := by have h := HZ.out; rw [List.take_of_length_le hkq] at h; exact h
      rw [List.drop_eq_nil_of_le hkq, List.nil_append] at H
      have hk1 : ¬ (k : Int) < (b : Int) := by omega
      clear hlt hkq HZ HP hkb
      go_wp2_with fail
      refine bodyPost_end (v := .tuple #[]) (by simp [results, Tryd.results88, go_sem]) rfl ⟨rfl, Z1, HF.out.1, HF.out.2, (by repeat (first | (with_reducible exact H) | (with_reducible apply Hp.alloc) | (with_reducible apply Hp.set) | (with_reducible apply Hp.drew) | (with_reducible apply Hp.drewN) | (with_reducible apply Hp.bytesW) | (with_reducible exact Upd.here) | (with_reducible exact Upd.hereR) | (with_reducible apply Upd.there) | (with_reducible apply Sz.alloc) | (with_reducible apply Sz.set) | (with_reducible apply Sz.drew) | (with_reducible apply Sz.drewN) | (with_reducible apply Sz.bytesW) | (with_reducible assumption) | (with_reducible exact Sz.base _)))⟩
end Go.Proofs.YtlmmeeeoljlgcaaDoor

/- Two sorted parts of a row of leases are merged in place (symMerge). No condition. -/
import Derived.Test.YtlmmeeeoljlgcaaDoorSortI
import Derived.Deep.DeepCutAuto
set_option linter.unusedVariables false
set_option linter.unusedSimpArgs false
namespace Go.Proofs.YtlmmeeeoljlgcaaDoor
open Go.RowKit
set_option linter.unusedVariables false
set_option linter.unusedSimpArgs false
theorem last_take {V : List Lease} {k : Nat} {v : Lease} (hk : k ≤ V.length) (h : (V.take k).getLast? = some v) : ∃ (_ : 0 < k) (h1 : k - 1 < V.length), V[k - 1] = v := by
  rw [List.getLast?_eq_getElem?, List.length_take, Nat.min_eq_left hk] at h
  obtain ⟨h2, h3⟩ := List.getElem?_eq_some_iff.1 h
  rw [List.length_take] at h2
  rw [List.getElem_take] at h3
  exact ⟨by omega, by omega, h3⟩
/-- v does not come before u. -/
def NotLt (v u : Lease) : Prop := ¬ v.ends < u.ends
theorem head_drop {V : List Lease} {k : Nat} {v : Lease} (h : (V.drop k).head? = some v) : ∃ h1 : k < V.length, V[k] = v := by
  rw [List.head?_drop] at h
  exact List.getElem?_eq_some_iff.1 h
theorem get_at3 {P U R xs : List Lease} {a k : Nat} {u : Lease} (hx : P ++ (U ++ R) = xs) (hp : P.length = a) (hk : k < U.length) (hu : U[k] = u) (h : a + k < xs.length) : xs[a + k] = u := by
  subst hx hp hu
  rw [List.getElem_append_right (by omega)]
  simp only [Nat.add_sub_cancel_left]
  rw [List.getElem_append_left hk]
set_option maxHeartbeats 8000000 in
set_option maxRecDepth 10000 in
theorem symA_hp (g : Nat) (eg : ∀ args w, (callFunc g args).run Tryd.prog w = .ok (.enter g args) w) (HC : Hid (∀ (W : World) (x y : Lease), Calls Tryd.prog g #[valL x, valL y] W fun e w' => e = .returned (.int .i64 (cmpZ x y)) ∧ Below W.heap.size W w')) (A : Option Addr) (n c : Nat) (X : Ent) (w0 : World) (hn20 : n ≤ 1048576) (a m b : Nat) (P U V S : List Lease) (w : World) (H : Hp w0 w [rLs A n c (P ++ (U ++ (V ++ S))), X]) (hl : Hid (P.length = a ∧ a + U.length = m ∧ m + V.length = b ∧ b + S.length = n ∧ 0 < U.length ∧ 0 < V.length)) (hs : Hid (SoZ U ∧ SoZ V ∧ BeS (·.id) U V)) (h1 : m = a + 1) :
    Calls Tryd.prog 89 #[.slice A n c, .int .i64 a, .int .i64 m, .int .i64 b, .func (.func g) #[] #[]] w fun e w' => e = .returned (.tuple #[]) ∧ ∃ Z, Z.Perm (U ++ V) ∧ SoZ Z ∧ Hp w0 w' [rLs A n c (P ++ (Z ++ S)), X] := by
  obtain ⟨u, rfl⟩ : ∃ u, U = [u] := by
    have h2 := hl.out
    match U, h2 with
    | [], h2 => simp at h2
    | [u], _ => exact ⟨u, rfl⟩
    | _ :: _ :: _, h2 => simp at h2; omega
  subst h1
  have hbn : b ≤ n := by have := hl.out; omega
  have hab : a + 1 < b := by have := hl.out; omega
  have hw0 : IntKind.i64.wrap (((a : Int) + 1) - (a : Int)) = 1 := by rw [IntKind.wrap_i64]; omega
  go_enter Tryd.func89, Tryd.ntmps89
  go_wp2_with fail
  have HH := Lib.hid H; clear H
  go_loopw [10, 11, 12] (fun i j s12 wr => ∃ i1 j1 : Nat, i = .int .i64 i1 ∧ j = .int .i64 j1 ∧ a + 1 ≤ i1 ∧ i1 ≤ j1 ∧ j1 ≤ b ∧ Hid (∀ v, (V.take (i1 - (a + 1))).getLast? = some v → v.ends < u.ends) ∧ Hid (∀ v, (V.drop (j1 - (a + 1))).head? = some v → ¬ v.ends < u.ends) ∧ Hid (Hp w0 wr [rLs A n c (P ++ ([u] ++ (V ++ S))), X])) (fun i j _ _ => (intOf j).toNat - (intOf i).toNat)
  case atStart =>
    refine ⟨a + 1, b, by go_num, rfl, Nat.le_refl _, by omega, Nat.le_refl _, ?_, ?_, HH⟩
    · intro v h; rw [Nat.sub_self, List.take_zero] at h; cases h
    · intro v h; rw [List.drop_eq_nil_of_le (by have := hl.out; omega)] at h; cases h
  case round =>
    clear HH
    obtain ⟨i1, j1, rfl, rfl, hai, hij, hjb, HLo, HHi, HP⟩ := hrel
    have H := HP.out
    by_cases hlt : i1 < j1
    · obtain ⟨k, hk⟩ : ∃ k, (i1 + j1) / 2 = k := ⟨_, rfl⟩
      have hki : i1 ≤ k ∧ k < j1 := by omega
      have hkk : ((i1 : Int) + (j1 : Int)) / 2 = (k : Int) := by omega
      obtain ⟨t, ht⟩ : ∃ t, k = a + 1 + t := ⟨k - (a + 1), by omega⟩
      have htv : t < V.length := by have := hl.out; omega
      obtain ⟨v, hv⟩ : ∃ v, V[t] = v := ⟨_, rfl⟩
      obtain ⟨xs, hxs⟩ : ∃ xs, P ++ ([u] ++ (V ++ S)) = xs := ⟨_, rfl⟩
      have HLN : Hid (xs.length = n) := by have := hl.out; show _ = _; rw [← hxs]; simp at this ⊢; omega
      have hkn : k < xs.length := by have := HLN.out; omega
      have han : a < xs.length := by have := HLN.out; omega
      have HXP : Hid (xs[k] = v) := by
        show _ = _
        subst ht
        exact get_at3 (P := P ++ [u]) (R := S) (by rw [← hxs]; simp) (by have := hl.out.1; rw [List.length_append, this]; rfl) htv hv hkn
      have HXQ : Hid (xs[a] = u) := get_at3 (k := 0) (U := [u]) hxs hl.out.1 (by simp) rfl (by simpa using han)
      rw [hxs] at H
      obtain ⟨g1, rfl⟩ := rowGl (H.rowM List.mem_cons_self) (by omega)
      have hk1 : (k : Int) < (n : Int) := by have := HLN.out; omega
      have ha1 : (a : Int) < (n : Int) := by omega
      have hk0 : (0 : Int) ≤ (k : Int) := by omega
      have hij1 : (i1 : Int) < (j1 : Int) := by omega
      have hj9 : j1 ≤ 1048576 := by omega
      by_cases hc : v.ends < u.ends
      · have HCZ := Lib.hid (cmpZ_lt hc)
        have HN : Hid (∀ v, (V.take (k + 1 - (a + 1))).getLast? = some v → v.ends < u.ends) := by
          intro v' h'
          obtain ⟨-, h8, h9⟩ := last_take (by omega) h'
          have : v' = v := by rw [← h9, ← hv]; congr 1; omega
          rw [this]; exact hc
        have HM : Hid (a + 1 ≤ k + 1 ∧ k + 1 ≤ j1 ∧ j1 - (k + 1) < j1 - i1) := ⟨by omega, by omega, by omega⟩
        clear hk hki ht htv hv hc hlt HP
        go_upto_region 5 with fail
        (refine wp_region_quiet (C := fun W => Hp w0 W [rLs (some ⟨g1, 0, none⟩) n c xs, X]) (by kernel_rfl) (by kernel_rfl) (by show Hp _ (World.drew _) _; exact (by repeat (first | (with_reducible exact H) | (with_reducible apply Hp.alloc) | (with_reducible apply Hp.set) | (with_reducible apply Hp.drew) | (with_reducible apply Hp.drewN) | (with_reducible apply Hp.bytesW) | (with_reducible exact Upd.here) | (with_reducible exact Upd.hereR) | (with_reducible apply Upd.there) | (with_reducible apply Sz.alloc) | (with_reducible apply Sz.set) | (with_reducible apply Sz.drew) | (with_reducible apply Sz.drewN) | (with_reducible apply Sz.bytesW) | (with_reducible assumption) | (with_reducible exact Sz.base _)))) ?_; (repeat (first | go_big_quiet_skip | (refine BigFrame.wpQuiet_want (by rfl) (fun K hK => ?_); unfold Oper.quiet; apply Exists.intro; refine ⟨fun W hW => ?_, hK _ ?_⟩; (focus (have G := hW.facts; simp only [Facts, NeF, box, row, reg, cellsF, ne_eq, true_and, and_true, Nat.reduceAdd, Nat.zero_add] at G; obtain ⟨ca0, ca1, ca2, ca3, ca4, ca5⟩ := lsAt hW List.mem_cons_self HLN.out (k := k) (by omega); obtain ⟨cb0, cb1, cb2, cb3, cb4, cb5⟩ := lsAt hW List.mem_cons_self HLN.out (k := a) (by omega); rw [HXP.out] at ca0 ca1 ca2 ca3 ca4 ca5; rw [HXQ.out] at cb0 cb1 cb2 cb3 cb4 cb5; go_simp; first | rfl | (go_at_fn g; refine (HC.out _ v u).mono ?_; rintro e w' ⟨rfl, hb⟩; rw [HCZ.out]; exact ⟨rfl, hW.step hb⟩))); clear hK K; simp only [Act.put, List.setIfInBounds_toArray, List.set_cons_zero, List.set_cons_succ]))); refine wpQuiet_nil ?_; intro wq H; have F := H.facts; simp only [Facts, NeF, box, row, reg, cellsF, ne_eq, true_and, and_true, Nat.reduceAdd, Nat.zero_add] at F)
        all_goals
          go_wp2_with fail
          go_roundw
          case rel => exact ⟨k + 1, j1, by go_num, rfl, HM.out.1, HM.out.2.1, hjb, HN, HHi, Lib.hid (Hp.intoL (by repeat (first | (with_reducible exact H) | (with_reducible apply Hp.alloc) | (with_reducible apply Hp.set) | (with_reducible apply Hp.drew) | (with_reducible apply Hp.drewN) | (with_reducible apply Hp.bytesW) | (with_reducible exact Upd.here) | (with_reducible exact Upd.hereR) | (with_reducible apply Upd.there) | (with_reducible apply Sz.alloc) | (with_reducible apply Sz.set) | (with_reducible apply Sz.drew) | (with_reducible apply Sz.drewN) | (with_reducible apply Sz.bytesW) | (with_reducible assumption) | (with_reducible exact Sz.base _))) fun H9 => by rw [hxs]; exact H9)⟩
          case measure => have := HM.out.2.2; simp [intOf]; omega
      · obtain ⟨r, hr, hr0⟩ := cmpZ_ge hc
        have HCZ := Lib.hid hr
        have hrd : decide (r < 0) = false := decide_eq_false hr0
        have HN : Hid (∀ v, (V.drop (k - (a + 1))).head? = some v → ¬ v.ends < u.ends) := by
          intro v' h'
          obtain ⟨h8, h9⟩ := head_drop h'
          have : v' = v := by rw [← h9, ← hv]; congr 1; omega
          rw [this]; exact hc
        have HM : Hid (i1 ≤ k ∧ k ≤ b ∧ k - i1 < j1 - i1) := ⟨by omega, by omega, by omega⟩
        clear hk hki ht htv hv hc hlt HP hr
        go_upto_region 5 with fail
        (refine wp_region_quiet (C := fun W => Hp w0 W [rLs (some ⟨g1, 0, none⟩) n c xs, X]) (by kernel_rfl) (by kernel_rfl) (by show Hp _ (World.drew _) _; exact (by repeat (first | (with_reducible exact H) | (with_reducible apply Hp.alloc) | (with_reducible apply Hp.set) | (with_reducible apply Hp.drew) | (with_reducible apply Hp.drewN) | (with_reducible apply Hp.bytesW) | (with_reducible exact Upd.here) | (with_reducible exact Upd.hereR) | (with_reducible apply Upd.there) | (with_reducible apply Sz.alloc) | (with_reducible apply Sz.set) | (with_reducible apply Sz.drew) | (with_reducible apply Sz.drewN) | (with_reducible apply Sz.bytesW) | (with_reducible assumption) | (with_reducible exact Sz.base _)))) ?_; (repeat (first | go_big_quiet_skip | (refine BigFrame.wpQuiet_want (by rfl) (fun K hK => ?_); unfold Oper.quiet; apply Exists.intro; refine ⟨fun W hW => ?_, hK _ ?_⟩; (focus (have G := hW.facts; simp only [Facts, NeF, box, row, reg, cellsF, ne_eq, true_and, and_true, Nat.reduceAdd, Nat.zero_add] at G; obtain ⟨ca0, ca1, ca2, ca3, ca4, ca5⟩ := lsAt hW List.mem_cons_self HLN.out (k := k) (by omega); obtain ⟨cb0, cb1, cb2, cb3, cb4, cb5⟩ := lsAt hW List.mem_cons_self HLN.out (k := a) (by omega); rw [HXP.out] at ca0 ca1 ca2 ca3 ca4 ca5; rw [HXQ.out] at cb0 cb1 cb2 cb3 cb4 cb5; go_simp; first | rfl | (go_at_fn g; refine (HC.out _ v u).mono ?_; rintro e w' ⟨rfl, hb⟩; rw [HCZ.out]; exact ⟨rfl, hW.step hb⟩))); clear hK K; simp only [Act.put, List.setIfInBounds_toArray, List.set_cons_zero, List.set_cons_succ]))); refine wpQuiet_nil ?_; intro wq H; have F := H.facts; simp only [Facts, NeF, box, row, reg, cellsF, ne_eq, true_and, and_true, Nat.reduceAdd, Nat.zero_add] at F)
        all_goals
          go_wp2_with fail
          go_roundw
          case rel => exact ⟨i1, k, rfl, by go_num, hai, HM.out.1, HM.out.2.1, HLo, HN, Lib.hid (Hp.intoL (by repeat (first | (with_reducible exact H) | (with_reducible apply Hp.alloc) | (with_reducible apply Hp.set) | (with_reducible apply Hp.drew) | (with_reducible apply Hp.drewN) | (with_reducible apply Hp.bytesW) | (with_reducible exact Upd.here) | (with_reducible exact Upd.hereR) | (with_reducible apply Upd.there) | (with_reducible apply Sz.alloc) | (with_reducible apply Sz.set) | (with_reducible apply Sz.drew) | (with_reducible apply Sz.drewN) | (with_reducible apply Sz.bytesW) | (with_reducible assumption) | (with_reducible exact Sz.base _))) fun H9 => by rw [hxs]; exact H9)⟩
          case measure => have := HM.out.2.2; simp [intOf]; omega
    · obtain rfl : i1 = j1 := by omega
      obtain ⟨V1, V2, rfl, hv1, hv2, hvl⟩ : ∃ V1 V2, V = V1 ++ V2 ∧ (∀ v, V1.getLast? = some v → v.ends < u.ends) ∧ (∀ v, V2.head? = some v → ¬ v.ends < u.ends) ∧ a + 1 + V1.length = i1 := ⟨V.take (i1 - (a + 1)), V.drop (i1 - (a + 1)), (List.take_append_drop _ _).symm, HLo.out, HHi.out, by have := hl.out; rw [List.length_take]; omega⟩
      have HZ := Lib.hid (put_first (en := (·.ends)) (id := (·.id)) (u := u) (V1 := V1) (V2 := V2) hs.out.2.1 (fun v hv => hs.out.2.2 u (List.mem_singleton.2 rfl) v hv) hv1 hv2)
      have hi1 : ¬ (i1 : Int) < (i1 : Int) := by omega
      have hwi : IntKind.i64.wrap ((i1 : Int) - 1) = ((a + V1.length : Nat) : Int) := by rw [IntKind.wrap_i64]; omega
      obtain ⟨e, he⟩ : ∃ e, a + V1.length = e := ⟨_, rfl⟩
      have HE := Lib.hid he
      have he9 : e ≤ 1048576 := by omega
      rw [he] at hwi
      clear HLo HHi hv1 hv2 hlt HP hvl he hai hij hjb hab
      go_wp2_with fail
      have HH := Lib.hid H; clear H
      go_loopw [13] (fun i wr => ∃ k : Nat, i = .int .i64 k ∧ k ≤ e ∧ ∃ Va Vb, Hid (V1 = Va ++ Vb ∧ a + Va.length = k) ∧ Hid (Hp w0 wr [rLs A n c (P ++ (Va ++ (u :: (Vb ++ (V2 ++ S))))), X])) (fun i _ => e - (intOf i).toNat)
      case atStart => exact ⟨a, rfl, by have := HE.out; omega, [], V1, ⟨rfl, rfl⟩, by simpa using HH⟩
      case round =>
        clear HH
        obtain ⟨k, rfl, hke, Va, Vb, HX, HP⟩ := hrel
        have H := HP.out
        by_cases hlt : k < e
        · obtain ⟨x1, x2⟩ := HX.out
          obtain ⟨y, Vc, rfl⟩ : ∃ y Vc, Vb = y :: Vc := by
            cases Vb with
            | nil => have := HE.out; rw [x1, List.append_nil] at this; omega
            | cons y Vc => exact ⟨y, Vc, rfl⟩
          have hpl : (P ++ Va).length = k := by rw [List.length_append, hl.out.1]; exact x2
          obtain ⟨xs, hxs⟩ : ∃ xs, P ++ (Va ++ (u :: (y :: Vc ++ (V2 ++ S)))) = xs := ⟨_, rfl⟩
          have e3 : xs = (P ++ Va) ++ u :: (y :: (Vc ++ (V2 ++ S))) := by rw [← hxs]; simp
          have HLN : Hid (xs.length = n) := by
            have h9 := hl.out
            show _ = _
            rw [e3, List.length_append, hpl]
            rw [x1] at h9
            simp at h9 ⊢
            omega
          have hpn : k < xs.length := by rw [e3, List.length_append, hpl]; simp
          obtain ⟨k1, hk1⟩ : ∃ k1, k + 1 = k1 := ⟨_, rfl⟩
          have hqn : k1 < xs.length := by rw [e3, List.length_append, hpl]; simp; omega
          have HXP : Hid (xs[k] = u) := by show _ = _; subst e3; exact get_mid hpl hpn
          have HXQ : Hid (xs[k1] = y) := by
            show _ = _
            have e4 : xs = ((P ++ Va) ++ [u]) ++ y :: (Vc ++ (V2 ++ S)) := by rw [e3]; simp
            subst e4
            exact get_mid (by rw [List.length_append, hpl]; exact hk1) hqn
          have HNX : Hid ((xs.set k y).set k1 u = P ++ ((Va ++ [y]) ++ (u :: (Vc ++ (V2 ++ S))))) := by
            have h9 := swap_up (A := P ++ Va) (B := []) (C := Vc ++ (V2 ++ S)) (x := u) (z := y)
            rw [hpl] at h9
            show _ = _
            rw [e3, ← hk1]
            simpa using h9
          have HX2 : Hid (V1 = (Va ++ [y]) ++ Vc ∧ a + (Va ++ [y]).length = k1) := ⟨by rw [x1]; simp, by rw [List.length_append]; simp; omega⟩
          rw [hxs] at H
          have hkk1 : (k : Int) < (e : Int) := by omega
          have hw1 : IntKind.i64.wrap ((k : Int) + 1) = (k1 : Int) := by rw [IntKind.wrap_i64]; omega
          have hp1 : (k : Int) < (n : Int) := by have := HLN.out; omega
          have hq1 : (k1 : Int) < (n : Int) := by have := HLN.out; omega
          have hp0 : (0 : Int) ≤ (k : Int) := by omega
          have hq0 : (0 : Int) ≤ (k1 : Int) := by omega
          have HM : Hid (k1 ≤ e ∧ e - k1 < e - k) := ⟨by omega, by omega⟩
          have hkk2 : k < k1 := by omega
          obtain ⟨g1, rfl⟩ := rowGl (H.rowM List.mem_cons_self) (by omega)
          obtain ⟨ca0, ca1, ca2, ca3, ca4, ca5⟩ := lsAt H List.mem_cons_self HLN.out (k := k) (by omega)
          obtain ⟨cb0, cb1, cb2, cb3, cb4, cb5⟩ := lsAt H List.mem_cons_self HLN.out (k := k1) (by omega)
          rw [HXP.out] at ca0 ca1 ca2 ca3 ca4 ca5
          rw [HXQ.out] at cb0 cb1 cb2 cb3 cb4 cb5
          have hfz := fun j => (H.rowM (List.mem_cons_self)).frozenAt (g := g1) j
          have fa0 := hfz (k * 6)
          have fb0 := hfz (k1 * 6)
          have fa1 := hfz (k * 6 + 1)
          have fb1 := hfz (k1 * 6 + 1)
          have fa2 := hfz (k * 6 + 2)
          have fb2 := hfz (k1 * 6 + 2)
          have fa3 := hfz (k * 6 + 3)
          have fb3 := hfz (k1 * 6 + 3)
          have fa4 := hfz (k * 6 + 4)
          have fb4 := hfz (k1 * 6 + 4)
          have fa5 := hfz (k * 6 + 5)
          have fb5 := hfz (k1 * 6 + 5)
          clear hfz
          have hof : (¬ k = k1 ∧ ¬ k1 = k) ∧ (¬ k * 6 + 1 = k1 * 6 ∧ ¬ k1 * 6 = k * 6 + 1 ∧ ¬ k * 6 + 2 = k1 * 6 ∧ ¬ k1 * 6 = k * 6 + 2 ∧ ¬ k * 6 + 3 = k1 * 6 ∧ ¬ k1 * 6 = k * 6 + 3 ∧ ¬ k * 6 + 4 = k1 * 6 ∧ ¬ k1 * 6 = k * 6 + 4 ∧ ¬ k * 6 + 5 = k1 * 6 ∧ ¬ k1 * 6 = k * 6 + 5 ∧ ¬ k1 * 6 + 1 = k * 6 ∧ ¬ k * 6 = k1 * 6 + 1 ∧ ¬ k1 * 6 + 2 = k * 6 ∧ ¬ k * 6 = k1 * 6 + 2 ∧ ¬ k1 * 6 + 3 = k * 6 ∧ ¬ k * 6 = k1 * 6 + 3 ∧ ¬ k1 * 6 + 4 = k * 6 ∧ ¬ k * 6 = k1 * 6 + 4 ∧ ¬ k1 * 6 + 5 = k * 6 ∧ ¬ k * 6 = k1 * 6 + 5) := by omega
          have HSE := Lib.hid (swap_ent (A := some ⟨g1, 0, none⟩) (n := n) (c := c) (x := u) (z := y) hpn hqn)
          clear x1 x2 hpl hxs e3 hk1 HXP HXQ hpn hqn hlt HP HX hkk2
          go_upto_region 11 with fail
          go_region
          go_wp2_with fail
          go_roundw
          case rel => exact ⟨k1, rfl, HM.out.1, Va ++ [y], Vc, HX2, Lib.hid (Hp.intoL (by repeat (first | (with_reducible exact H) | (with_reducible apply Hp.alloc) | (with_reducible apply Hp.set) | (with_reducible apply Hp.drew) | (with_reducible apply Hp.drewN) | (with_reducible apply Hp.bytesW) | (with_reducible exact Upd.here) | (with_reducible exact Upd.hereR) | (with_reducible apply Upd.there) | (with_reducible apply Sz.alloc) | (with_reducible apply Sz.set) | (with_reducible apply Sz.drew) | (with_reducible apply Sz.drewN) | (with_reducible apply Sz.bytesW) | (with_reducible assumption) | (with_reducible exact Sz.base _))) fun H9 => by
            rw [HSE.out, HNX.out] at H9
            exact H9)⟩
          case measure => have := HM.out.2; simp [intOf]; omega
        · have hvb : Vb = [] := by
            have h8 := HX.out
            have h9 := HE.out
            rw [h8.1, List.length_append] at h9
            exact List.eq_nil_of_length_eq_zero (by omega)
          subst hvb
          have hva : V1 = Va := by have := HX.out.1; rwa [List.append_nil] at this
          subst hva
          have hk1 : ¬ (k : Int) < (e : Int) := by omega
          clear hlt HX HP
          go_wp2_with fail
          refine bodyPost_ret (v := .tuple #[]) (by simp [results, Tryd.results89, go_sem]) rfl ⟨rfl, V1 ++ u :: V2, HZ.out.2, HZ.out.1, Hp.intoL (by repeat (first | (with_reducible exact H) | (with_reducible apply Hp.alloc) | (with_reducible apply Hp.set) | (with_reducible apply Hp.drew) | (with_reducible apply Hp.drewN) | (with_reducible apply Hp.bytesW) | (with_reducible exact Upd.here) | (with_reducible exact Upd.hereR) | (with_reducible apply Upd.there) | (with_reducible apply Sz.alloc) | (with_reducible apply Sz.set) | (with_reducible apply Sz.drew) | (with_reducible apply Sz.drewN) | (with_reducible apply Sz.bytesW) | (with_reducible assumption) | (with_reducible exact Sz.base _))) fun H9 => by simpa using H9⟩
end Go.Proofs.YtlmmeeeoljlgcaaDoor

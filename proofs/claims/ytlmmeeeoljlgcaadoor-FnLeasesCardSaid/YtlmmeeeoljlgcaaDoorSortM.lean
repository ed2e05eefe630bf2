/- Two leases of a row change places; two parts of a row change places. No condition. -/
import Derived.Test.YtlmmeeeoljlgcaaDoorLeaseC
import Derived.Test.YtlmmeeeoljlgcaaDoorSortP
import Derived.Deep.DeepCutAuto
set_option linter.unusedVariables false
set_option linter.unusedSimpArgs false
namespace Go.Proofs.YtlmmeeeoljlgcaaDoor
open Go.RowKit
set_option linter.unusedVariables false
set_option linter.unusedSimpArgs false
abbrev rLs (A : Option Addr) (n c : Nat) (xs : List Lease) : Ent := row 40 6 (.slice A n c) n (xs.flatMap encLease)
theorem setL_flat : ∀ (xs : List Lease) (i : Nat) (hi : i < xs.length) (l : Lease), ((((((xs.flatMap encLease).set (i * 6) (.int .i64 l.id)).set (i * 6 + 1) (.int .i64 l.token)).set (i * 6 + 2) (.string l.path)).set (i * 6 + 3) (.int .i64 l.made)).set (i * 6 + 4) (.int .i64 l.ends)).set (i * 6 + 5) (.int .i64 l.limit) = (xs.set i l).flatMap encLease
  | [], i, hi, l => absurd hi (Nat.not_lt_zero _)
  | u :: us, 0, _, l => rfl
  | u :: us, i + 1, hi, l => by
    have h := setL_flat us i (Nat.lt_of_succ_lt_succ hi) l
    rw [show (i + 1) * 6 = i * 6 + 6 by omega, List.set_cons_succ, List.flatMap_cons, List.flatMap_cons, ← h]
    rfl
theorem rowGl {w : World} {B k n c : Nat} {e : TypeId} {A : Option Addr} {xs : List Value} (h : w.ownsRow B e k (.slice A n c) n xs) (h0 : 0 < n) : ∃ g, A = some ⟨g, 0, none⟩ := by
  rcases h.2 with ⟨e1, e2⟩ | ⟨g, cap, cur, e1, _⟩
  · omega
  · injection e1 with e1 _ _; exact ⟨g, e1⟩
theorem lsAt {w0 W : World} {M : List Ent} {g n c : Nat} {xs : List Lease} {k : Nat} (h : Hp w0 W M) (hm : rLs (some ⟨g, 0, none⟩) n c xs ∈ M) (hn : xs.length = n) (hk : k < xs.length) :
    W.cell? ⟨g, k * 6, none⟩ = some (.int .i64 xs[k].id) ∧ W.cell? ⟨g, k * 6 + 1, none⟩ = some (.int .i64 xs[k].token) ∧ W.cell? ⟨g, k * 6 + 2, none⟩ = some (.string xs[k].path) ∧ W.cell? ⟨g, k * 6 + 3, none⟩ = some (.int .i64 xs[k].made) ∧ W.cell? ⟨g, k * 6 + 4, none⟩ = some (.int .i64 xs[k].ends) ∧ W.cell? ⟨g, k * 6 + 5, none⟩ = some (.int .i64 xs[k].limit) := by
  have h9 := Rd.leaseAt (w := W) (A := some ⟨g, 0, none⟩) (n := n) (c := c) (us := xs) (k := k) (h.rdM (show row 40 6 (.slice (some ⟨g, 0, none⟩) n c) n (xs.flatMap encLease) ∈ M from hm)) hn hk rfl W (Below.refl _ _)
  simpa only [Nat.zero_add] using h9
theorem Hp.intoL {w0 w : World} {L R : List Ent} (H : Hp w0 w L) (h : Hp w0 w L → Hp w0 w R) : Hp w0 w R := h H
theorem call_atL {P : Program} {f : Nat} {args : Array Value} {w0 w : World} {L : List Ent} {Q : Ending → World → Prop} (H : Hp w0 w L) (k : Hp w0 w L → Calls P f args w Q) : Calls P f args w Q := k H
/-- Twelve cells set: two leases have changed places. -/
theorem swap_ent {A : Option Addr} {n c : Nat} {xs : List Lease} {p q : Nat} {x z : Lease} (hp : p < xs.length) (hq : q < xs.length) :
    row 40 6 (.slice A n c) n (((((((((((((xs.flatMap encLease).set (p * 6) (.int .i64 z.id)).set (p * 6 + 1) (.int .i64 z.token)).set (p * 6 + 2) (.string z.path)).set (p * 6 + 3) (.int .i64 z.made)).set (p * 6 + 4) (.int .i64 z.ends)).set (p * 6 + 5) (.int .i64 z.limit)).set (q * 6) (.int .i64 x.id)).set (q * 6 + 1) (.int .i64 x.token)).set (q * 6 + 2) (.string x.path)).set (q * 6 + 3) (.int .i64 x.made)).set (q * 6 + 4) (.int .i64 x.ends)).set (q * 6 + 5) (.int .i64 x.limit)) = rLs A n c ((xs.set p z).set q x) := by
  rw [setL_flat xs p hp z, setL_flat (xs.set p z) q (by rw [List.length_set]; exact hq) x]
theorem get_mid {α : Type} {A C : List α} {x : α} {p : Nat} (h : A.length = p) (hp : p < (A ++ x :: C).length) : (A ++ x :: C)[p] = x := by
  subst h; rw [List.getElem_append_right (Nat.le_refl _)]; simp
set_option maxHeartbeats 8000000 in
set_option maxRecDepth 10000 in
theorem swapRange_hp (A : Option Addr) (n c a b k : Nat) (fv : Value) (P X Y Z S : List Lease) (R : List Ent) (w0 w : World) (H : Hp w0 w (rLs A n c (P ++ (X ++ (Y ++ (Z ++ S)))) :: R)) (hl : Hid (P.length = a ∧ X.length = k ∧ Z.length = k ∧ a + k + Y.length = b ∧ b + k + S.length = n)) (hn20 : n ≤ 1048576) :
    Calls Tryd.prog 104 #[.slice A n c, .int .i64 a, .int .i64 b, .int .i64 k, fv] w fun e w' => e = .returned (.tuple #[]) ∧ Hp w0 w' (rLs A n c (P ++ (Z ++ (Y ++ (X ++ S)))) :: R) := by
  have hak : a + k ≤ b := by have := hl.out; omega
  have hbk : b + k ≤ n := by have := hl.out; omega
  go_enter Tryd.func104, Tryd.ntmps104
  go_wp2_with fail
  have HH := Lib.hid H; clear H
  go_loopw [10] (fun i wr => ∃ j : Nat, j ≤ k ∧ i = .int .i64 j ∧ ∃ X1 X2 Z1 Z2 : List Lease, Hid (X = X1 ++ X2 ∧ Z = Z1 ++ Z2 ∧ X1.length = j ∧ Z1.length = j) ∧ Hid (Hp w0 wr (rLs A n c (P ++ (Z1 ++ (X2 ++ (Y ++ (X1 ++ (Z2 ++ S)))))) :: R))) (fun i _ => k - (intOf i).toNat)
  case atStart => exact ⟨0, Nat.zero_le _, rfl, [], X, [], Z, ⟨rfl, rfl, rfl, rfl⟩, HH⟩
  case round =>
    clear HH
    obtain ⟨j, hj, rfl, X1, X2, Z1, Z2, HX, HP⟩ := hrel
    have H := HP.out
    by_cases hlt : j < k
    · obtain ⟨h1, h2, h3, h4⟩ := HX.out
      obtain ⟨l1, l2, l3, l4, l5⟩ := hl.out
      obtain ⟨x, X3, rfl⟩ : ∃ x X3, X2 = x :: X3 := by
        cases X2 with
        | nil => rw [h1] at l2; simp at l2; omega
        | cons x X3 => exact ⟨x, X3, rfl⟩
      obtain ⟨z, Z3, rfl⟩ : ∃ z Z3, Z2 = z :: Z3 := by
        cases Z2 with
        | nil => rw [h2] at l3; simp at l3; omega
        | cons z Z3 => exact ⟨z, Z3, rfl⟩
      have e1 : X1.length + X3.length + 1 = k := by rw [← l2, h1]; simp; omega
      have e2 : Z1.length + Z3.length + 1 = k := by rw [← l3, h2]; simp; omega
      obtain ⟨xs, hxs⟩ : ∃ xs, P ++ (Z1 ++ (x :: X3 ++ (Y ++ (X1 ++ (z :: Z3 ++ S))))) = xs := ⟨_, rfl⟩
      obtain ⟨p, hp⟩ : ∃ p, a + j = p := ⟨_, rfl⟩
      obtain ⟨q, hq⟩ : ∃ q, b + j = q := ⟨_, rfl⟩
      have HLN : Hid (xs.length = n) := by show _ = _; rw [← hxs]; simp; omega
      have hpn : p < xs.length := by have := HLN.out; omega
      have hqn : q < xs.length := by have := HLN.out; omega
      have HXP : Hid (xs[p] = x) := by
        show _ = _
        have e3 : xs = (P ++ Z1) ++ x :: (X3 ++ (Y ++ (X1 ++ (z :: Z3 ++ S)))) := by rw [← hxs]; simp
        subst e3
        exact get_mid (by rw [List.length_append]; omega) hpn
      have HXQ : Hid (xs[q] = z) := by
        show _ = _
        have e3 : xs = (P ++ (Z1 ++ (x :: X3 ++ (Y ++ X1)))) ++ z :: (Z3 ++ S) := by rw [← hxs]; simp
        subst e3
        exact get_mid (by simp; omega) hqn
      have HNX : Hid ((xs.set p z).set q x = P ++ ((Z1 ++ [z]) ++ (X3 ++ (Y ++ ((X1 ++ [x]) ++ (Z3 ++ S)))))) := by
        show _ = _
        have h9 := swap_up (A := P ++ Z1) (B := X3 ++ (Y ++ X1)) (C := Z3 ++ S) (x := x) (z := z)
        rw [show (P ++ Z1).length = p by rw [List.length_append]; omega, show p + 1 + (X3 ++ (Y ++ X1)).length = q by simp; omega] at h9
        rw [← hxs]
        simpa using h9
      have HN2 : Hid (X = (X1 ++ [x]) ++ X3 ∧ Z = (Z1 ++ [z]) ++ Z3 ∧ (X1 ++ [x]).length = j + 1 ∧ (Z1 ++ [z]).length = j + 1) := ⟨by rw [h1]; simp, by rw [h2]; simp, by simp; omega, by simp; omega⟩
      have HK1 : Hid (j + 1 ≤ k ∧ k - (j + 1) < k - j) := ⟨by omega, by omega⟩
      rw [hxs] at H
      have hj1 : (j : Int) < (k : Int) := by omega
      have hj9 : j ≤ 1048576 := by omega
      have hpq : p < q := by omega
      have hwp : IntKind.i64.wrap ((a : Int) + (j : Int)) = (p : Int) := by rw [IntKind.wrap_i64]; omega
      have hwq : IntKind.i64.wrap ((b : Int) + (j : Int)) = (q : Int) := by rw [IntKind.wrap_i64]; omega
      have hp1 : (p : Int) < (n : Int) := by have := HLN.out; omega
      have hq1 : (q : Int) < (n : Int) := by have := HLN.out; omega
      have hp0 : (0 : Int) ≤ (p : Int) := by omega
      have hq0 : (0 : Int) ≤ (q : Int) := by omega
      obtain ⟨g, rfl⟩ := rowGl (H.rowM List.mem_cons_self) (by omega)
      obtain ⟨ca0, ca1, ca2, ca3, ca4, ca5⟩ := lsAt H List.mem_cons_self HLN.out (k := p) (by omega)
      obtain ⟨cb0, cb1, cb2, cb3, cb4, cb5⟩ := lsAt H List.mem_cons_self HLN.out (k := q) (by omega)
      rw [HXP.out] at ca0 ca1 ca2 ca3 ca4 ca5
      rw [HXQ.out] at cb0 cb1 cb2 cb3 cb4 cb5
      have hfz := fun j => (H.rowM (List.mem_cons_self)).frozenAt (g := g) j
      have fa0 := hfz (p * 6)
      have fb0 := hfz (q * 6)
      have fa1 := hfz (p * 6 + 1)
      have fb1 := hfz (q * 6 + 1)
      have fa2 := hfz (p * 6 + 2)
      have fb2 := hfz (q * 6 + 2)
      have fa3 := hfz (p * 6 + 3)
      have fb3 := hfz (q * 6 + 3)
      have fa4 := hfz (p * 6 + 4)
      have fb4 := hfz (q * 6 + 4)
      have fa5 := hfz (p * 6 + 5)
      have fb5 := hfz (q * 6 + 5)
      clear hfz
      have hof : (¬ p = q ∧ ¬ q = p) ∧ (¬ p * 6 + 1 = q * 6 ∧ ¬ q * 6 = p * 6 + 1 ∧ ¬ p * 6 + 2 = q * 6 ∧ ¬ q * 6 = p * 6 + 2 ∧ ¬ p * 6 + 3 = q * 6 ∧ ¬ q * 6 = p * 6 + 3 ∧ ¬ p * 6 + 4 = q * 6 ∧ ¬ q * 6 = p * 6 + 4 ∧ ¬ p * 6 + 5 = q * 6 ∧ ¬ q * 6 = p * 6 + 5 ∧ ¬ q * 6 + 1 = p * 6 ∧ ¬ p * 6 = q * 6 + 1 ∧ ¬ q * 6 + 2 = p * 6 ∧ ¬ p * 6 = q * 6 + 2 ∧ ¬ q * 6 + 3 = p * 6 ∧ ¬ p * 6 = q * 6 + 3 ∧ ¬ q * 6 + 4 = p * 6 ∧ ¬ p * 6 = q * 6 + 4 ∧ ¬ q * 6 + 5 = p * 6 ∧ ¬ p * 6 = q * 6 + 5) := by omega
      have HSE := Lib.hid (swap_ent (A := some ⟨g, 0, none⟩) (n := n) (c := c) (x := x) (z := z) hpn hqn)
      clear h1 h2 h3 h4 l1 l2 l3 l4 l5 e1 e2 hxs hp hq hlt hpq HXP HXQ hpn hqn hak hbk HP HX
      go_upto_region 3 with fail
      go_region
      go_wp2_with fail
      go_roundw
      case rel => exact ⟨j + 1, HK1.out.1, by go_num, X1 ++ [x], X3, Z1 ++ [z], Z3, HN2, Lib.hid (Hp.intoL (by repeat (first | (with_reducible exact H) | (with_reducible apply Hp.alloc) | (with_reducible apply Hp.set) | (with_reducible apply Hp.drew) | (with_reducible apply Hp.drewN) | (with_reducible apply Hp.bytesW) | (with_reducible exact Upd.here) | (with_reducible exact Upd.hereR) | (with_reducible apply Upd.there) | (with_reducible apply Sz.alloc) | (with_reducible apply Sz.set) | (with_reducible apply Sz.drew) | (with_reducible apply Sz.drewN) | (with_reducible apply Sz.bytesW) | (with_reducible assumption) | (with_reducible exact Sz.base _))) fun H9 => by
        rw [HSE.out, HNX.out] at H9
        exact H9)⟩
      case measure => have := HK1.out.2; simp [intOf]; omega
    · have hjk : j = k := by omega
      obtain ⟨h1, h2, h3, h4⟩ := HX.out
      have hx2 : X2 = [] := by
        have := hl.out.2.1
        rw [h1, List.length_append] at this
        exact List.eq_nil_of_length_eq_zero (by omega)
      have hz2 : Z2 = [] := by
        have := hl.out.2.2.1
        rw [h2, List.length_append] at this
        exact List.eq_nil_of_length_eq_zero (by omega)
      subst hx2 hz2
      rw [List.append_nil] at h1 h2
      subst h1 h2
      have hj1 : ¬ (j : Int) < (k : Int) := by omega
      clear hlt h3 h4 hl HX
      go_wp2_with fail
      refine bodyPost_end (v := .tuple #[]) (by simp [results, Tryd.results104, go_sem]) rfl ⟨rfl, ?_⟩
      exact Hp.intoL (by repeat (first | (with_reducible exact H) | (with_reducible apply Hp.alloc) | (with_reducible apply Hp.set) | (with_reducible apply Hp.drew) | (with_reducible apply Hp.drewN) | (with_reducible apply Hp.bytesW) | (with_reducible exact Upd.here) | (with_reducible exact Upd.hereR) | (with_reducible apply Upd.there) | (with_reducible apply Sz.alloc) | (with_reducible apply Sz.set) | (with_reducible apply Sz.drew) | (with_reducible apply Sz.drewN) | (with_reducible apply Sz.bytesW) | (with_reducible assumption) | (with_reducible exact Sz.base _))) fun H9 => by simpa only [List.nil_append] using H9
set_option maxHeartbeats 8000000 in
set_option maxRecDepth 10000 in
theorem rotate_hp (A : Option Addr) (n c a m b : Nat) (fv : Value) (P U V S : List Lease) (R : List Ent) (w0 w : World) (H : Hp w0 w (rLs A n c (P ++ (U ++ (V ++ S))) :: R)) (hl : Hid (P.length = a ∧ a + U.length = m ∧ m + V.length = b ∧ b + S.length = n)) (h1 : a < m) (h2 : m < b) (hn20 : n ≤ 1048576) :
    Calls Tryd.prog 96 #[.slice A n c, .int .i64 a, .int .i64 m, .int .i64 b, fv] w fun e w' => e = .returned (.tuple #[]) ∧ Hp w0 w' (rLs A n c (P ++ (V ++ (U ++ S))) :: R) := by
  have hbn : b ≤ n := by have := hl.out; omega
  have hwa : IntKind.i64.wrap ((m : Int) - (a : Int)) = ((m - a : Nat) : Int) := by rw [IntKind.wrap_i64]; omega
  have hwb : IntKind.i64.wrap ((b : Int) - (m : Int)) = ((b - m : Nat) : Int) := by rw [IntKind.wrap_i64]; omega
  obtain ⟨i0, hi0⟩ : ∃ i0, m - a = i0 := ⟨_, rfl⟩
  obtain ⟨j0, hj0⟩ : ∃ j0, b - m = j0 := ⟨_, rfl⟩
  rw [hi0] at hwa
  rw [hj0] at hwb
  have HIJ : Hid (U.length = i0 ∧ V.length = j0 ∧ P.length + i0 = m ∧ m + j0 + S.length = n ∧ 0 < i0 ∧ 0 < j0) := by have := hl.out; exact ⟨by omega, by omega, by omega, by omega, by omega, by omega⟩
  have hm9 : m ≤ 1048576 := by omega
  clear hi0 hj0 h1 h2 hl
  go_enter Tryd.func96, Tryd.ntmps96
  go_wp2_with fail
  have HH := Lib.hid H; clear H
  go_loopw [10, 11] (fun i j wr => ∃ (i1 j1 : Nat), i = .int .i64 i1 ∧ j = .int .i64 j1 ∧ ∃ P1 U1 V1 S1 : List Lease, Hid (P1 ++ (V1 ++ (U1 ++ S1)) = P ++ (V ++ (U ++ S))) ∧ Hid (U1.length = i1 ∧ V1.length = j1 ∧ P1.length + i1 = m ∧ m + j1 + S1.length = n ∧ 0 < i1 ∧ 0 < j1) ∧ Hid (Hp w0 wr (rLs A n c (P1 ++ (U1 ++ (V1 ++ S1))) :: R))) (fun i j _ => (intOf i).toNat + (intOf j).toNat)
  case atStart => exact ⟨i0, j0, rfl, rfl, P, U, V, S, rfl, HIJ, HH⟩
  case round =>
    clear HH HIJ hwa hwb
    obtain ⟨i1, j1, rfl, rfl, P1, U1, V1, S1, HF, HL, HP⟩ := hrel
    have H := HP.out
    have him : i1 ≤ m := by have := HL.out; omega
    have hjn : m + j1 ≤ n := by have := HL.out; omega
    have hwm : IntKind.i64.wrap ((m : Int) - (i1 : Int)) = ((m - i1 : Nat) : Int) := by rw [IntKind.wrap_i64]; omega
    have HPL : Hid (P1.length = m - i1) := by have := HL.out; show _ = _; omega
    rcases Nat.lt_trichotomy i1 j1 with hij | hij | hij
    · have hb1 : ((i1 : Int) != (j1 : Int)) = true := by simp; omega
      have hb2 : ¬ (j1 : Int) < (i1 : Int) := by omega
      obtain ⟨Va, Vb, rfl, hvb⟩ : ∃ Va Vb, V1 = Va ++ Vb ∧ Vb.length = i1 := ⟨V1.take (j1 - i1), V1.drop (j1 - i1), (List.take_append_drop _ _).symm, by have := HL.out; rw [List.length_drop]; omega⟩
      have HVA : Hid (Va.length = j1 - i1) := by have := HL.out.2.1; rw [List.length_append] at this; show _ = _; omega
      have hw2 : IntKind.i64.wrap ((m : Int) + (j1 : Int)) = ((m + j1 : Nat) : Int) := by rw [IntKind.wrap_i64]; omega
      have hw3 : IntKind.i64.wrap (((m + j1 : Nat) : Int) - (i1 : Int)) = ((m + j1 - i1 : Nat) : Int) := by rw [IntKind.wrap_i64]; omega
      have hw4 : IntKind.i64.wrap ((j1 : Int) - (i1 : Int)) = ((j1 - i1 : Nat) : Int) := by rw [IntKind.wrap_i64]; omega
      have HC := Lib.hid (swapRange_hp A n c (m - i1) (m + j1 - i1) i1 fv P1 U1 Va Vb S1 R w0)
      obtain ⟨d, hd⟩ : ∃ d, m - i1 = d := ⟨_, rfl⟩
      obtain ⟨s, hs⟩ : ∃ s, m + j1 = s := ⟨_, rfl⟩
      obtain ⟨t, ht⟩ : ∃ t, m + j1 - i1 = t := ⟨_, rfl⟩
      obtain ⟨jn, hjn1⟩ : ∃ jn, j1 - i1 = jn := ⟨_, rfl⟩
      have HD : Hid (P1.length = d ∧ U1.length = i1 ∧ Vb.length = i1 ∧ d + i1 + Va.length = t ∧ t + i1 + S1.length = n) := by have := HL.out; have := HPL.out; have := HVA.out; exact ⟨by omega, by omega, by omega, by omega, by omega⟩
      have HN : Hid (P1 ++ (Va ++ (Vb ++ (U1 ++ S1))) = P ++ (V ++ (U ++ S))) := by have := HF.out; show _ = _; rw [← this]; simp
      have HN2 : Hid (Vb.length = i1 ∧ Va.length = jn ∧ P1.length + i1 = m ∧ m + jn + (U1 ++ S1).length = n ∧ 0 < i1 ∧ 0 < jn) := by have := HL.out; have := HVA.out; rw [List.length_append]; exact ⟨by omega, by omega, by omega, by omega, by omega, by omega⟩
      have HM : Hid (jn < j1) := by show _ < _; have := HL.out; omega
      rw [hd] at hwm HC
      rw [hs] at hw2 hw3
      rw [show s - i1 = t by omega] at hw3
      rw [ht] at HC
      rw [hjn1] at hw4
      clear hd hs ht hjn1 hij hvb HL HPL HVA HF HP
      rw [show U1 ++ (Va ++ Vb ++ S1) = U1 ++ (Va ++ (Vb ++ S1)) by simp] at H
      go_wp2_with fail
      refine (HC.out _ (by repeat (first | (with_reducible exact H) | (with_reducible apply Hp.alloc) | (with_reducible apply Hp.set) | (with_reducible apply Hp.drew) | (with_reducible apply Hp.drewN) | (with_reducible apply Hp.bytesW) | (with_reducible exact Upd.here) | (with_reducible exact Upd.hereR) | (with_reducible apply Upd.there) | (with_reducible apply Sz.alloc) | (with_reducible apply Sz.set) | (with_reducible apply Sz.drew) | (with_reducible apply Sz.drewN) | (with_reducible apply Sz.bytesW) | (with_reducible assumption) | (with_reducible exact Sz.base _))) HD hn20).mono ?_
      rintro e w1 ⟨rfl, H1⟩
      clear H
      have H := H1
      clear H1
      go_wp2_with fail
      go_roundw
      case rel => exact ⟨i1, jn, rfl, rfl, P1, Vb, Va, U1 ++ S1, HN, HN2, Lib.hid H⟩
      case measure => have := HM.out; simp [intOf]; omega
    · subst hij
      have hb1 : ((i1 : Int) != (i1 : Int)) = false := by simp
      have HC := Lib.hid (swapRange_hp A n c (m - i1) m i1 fv P1 U1 [] V1 S1 R w0)
      obtain ⟨d, hd⟩ : ∃ d, m - i1 = d := ⟨_, rfl⟩
      have HD : Hid (P1.length = d ∧ U1.length = i1 ∧ V1.length = i1 ∧ d + i1 + ([] : List Lease).length = m ∧ m + i1 + S1.length = n) := by have := HL.out; have := HPL.out; exact ⟨by omega, by omega, by omega, by simp; omega, by omega⟩
      rw [hd] at hwm HC
      clear hd HL HPL HP
      go_wp2_with fail
      refine (HC.out _ (by rw [List.nil_append]; exact H) HD hn20).mono ?_
      rintro e w1 ⟨rfl, H1⟩
      clear H
      rw [List.nil_append, HF.out] at H1
      have H := H1
      clear H1
      go_wp2_with fail
      refine bodyPost_end (v := .tuple #[]) (by simp [results, Tryd.results96, go_sem]) rfl ⟨rfl, (by repeat (first | (with_reducible exact H) | (with_reducible apply Hp.alloc) | (with_reducible apply Hp.set) | (with_reducible apply Hp.drew) | (with_reducible apply Hp.drewN) | (with_reducible apply Hp.bytesW) | (with_reducible exact Upd.here) | (with_reducible exact Upd.hereR) | (with_reducible apply Upd.there) | (with_reducible apply Sz.alloc) | (with_reducible apply Sz.set) | (with_reducible apply Sz.drew) | (with_reducible apply Sz.drewN) | (with_reducible apply Sz.bytesW) | (with_reducible assumption) | (with_reducible exact Sz.base _)))⟩
    · have hb1 : ((i1 : Int) != (j1 : Int)) = true := by simp; omega
      have hb2 : (j1 : Int) < (i1 : Int) := by omega
      obtain ⟨Ua, Ub, rfl, hua⟩ : ∃ Ua Ub, U1 = Ua ++ Ub ∧ Ua.length = j1 := ⟨U1.take j1, U1.drop j1, (List.take_append_drop _ _).symm, by have := HL.out; rw [List.length_take]; omega⟩
      have HUB : Hid (Ub.length = i1 - j1) := by have := HL.out.1; rw [List.length_append] at this; show _ = _; omega
      have hw4 : IntKind.i64.wrap ((i1 : Int) - (j1 : Int)) = ((i1 - j1 : Nat) : Int) := by rw [IntKind.wrap_i64]; omega
      have HC := Lib.hid (swapRange_hp A n c (m - i1) m j1 fv P1 Ua Ub V1 S1 R w0)
      obtain ⟨d, hd⟩ : ∃ d, m - i1 = d := ⟨_, rfl⟩
      obtain ⟨jn, hjn1⟩ : ∃ jn, i1 - j1 = jn := ⟨_, rfl⟩
      have HD : Hid (P1.length = d ∧ Ua.length = j1 ∧ V1.length = j1 ∧ d + j1 + Ub.length = m ∧ m + j1 + S1.length = n) := by have := HL.out; have := HPL.out; have := HUB.out; exact ⟨by omega, by omega, by omega, by omega, by omega⟩
      have HN : Hid ((P1 ++ V1) ++ (Ua ++ (Ub ++ S1)) = P ++ (V ++ (U ++ S))) := by have := HF.out; show _ = _; rw [← this]; simp
      have HN2 : Hid (Ub.length = jn ∧ Ua.length = j1 ∧ (P1 ++ V1).length + jn = m ∧ m + j1 + S1.length = n ∧ 0 < jn ∧ 0 < j1) := by have := HL.out; have := HUB.out; rw [List.length_append]; exact ⟨by omega, by omega, by omega, by omega, by omega, by omega⟩
      have HM : Hid (jn < i1) := by show _ < _; have := HL.out; omega
      rw [hd] at hwm HC
      rw [hjn1] at hw4
      clear hd hjn1 hij hua HL HPL HUB HF HP
      rw [show P1 ++ (Ua ++ Ub ++ (V1 ++ S1)) = P1 ++ (Ua ++ (Ub ++ (V1 ++ S1))) by simp] at H
      go_wp2_with fail
      refine (HC.out _ (by repeat (first | (with_reducible exact H) | (with_reducible apply Hp.alloc) | (with_reducible apply Hp.set) | (with_reducible apply Hp.drew) | (with_reducible apply Hp.drewN) | (with_reducible apply Hp.bytesW) | (with_reducible exact Upd.here) | (with_reducible exact Upd.hereR) | (with_reducible apply Upd.there) | (with_reducible apply Sz.alloc) | (with_reducible apply Sz.set) | (with_reducible apply Sz.drew) | (with_reducible apply Sz.drewN) | (with_reducible apply Sz.bytesW) | (with_reducible assumption) | (with_reducible exact Sz.base _))) HD hn20).mono ?_
      rintro e w1 ⟨rfl, H1⟩
      clear H
      rw [show P1 ++ (V1 ++ (Ub ++ (Ua ++ S1))) = (P1 ++ V1) ++ (Ub ++ (Ua ++ S1)) by simp] at H1
      have H := H1
      clear H1
      go_wp2_with fail
      go_roundw
      case rel => exact ⟨jn, j1, rfl, rfl, P1 ++ V1, Ub, Ua, S1, HN, HN2, Lib.hid H⟩
      case measure => have := HM.out; simp [intOf]; omega
end Go.Proofs.YtlmmeeeoljlgcaaDoor

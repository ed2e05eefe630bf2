/- Certificates: contracts, and the walk of FnExactCertOk. No condition. -/
import Derived.Test.YtonbebacioocnaaDoorPathI
namespace Go.Proofs.YtonbebacioocnaaDoor
open Go.RowKit
set_option linter.unusedVariables false
set_option linter.unusedSimpArgs false
structure Cert where
  ser : Int
  owner : ByteArray
  iss : Int
  from_ : Int
  to_ : Int
  ca : Bool
  depth : Int
  mark : Int
def encCert (c : Cert) : List Value := [.int .i64 c.ser, .string c.owner, .int .i64 c.iss, .int .i64 c.from_, .int .i64 c.to_, .bool c.ca, .int .i64 c.depth, .int .i64 c.mark]
abbrev valCert (c : Cert) : Value := .agg #[.int .i64 c.ser, .string c.owner, .int .i64 c.iss, .int .i64 c.from_, .int .i64 c.to_, .bool c.ca, .int .i64 c.depth, .int .i64 c.mark]
def certOk (c : Cert) : Bool := inR c.ser 1 1000000000 && (pathF c.owner && (inR c.iss 0 1000000000 && ((c.iss != c.ser) && (inR c.from_ 0 1000000000 && (inR c.to_ c.from_ 1000000000 && (inR c.depth 0 6 && (c.ca || (c.depth == 0))))))))
set_option maxHeartbeats 4000000 in
set_option maxRecDepth 10000 in
theorem specCertOk_any (c : Cert) (w : World) (hs : c.owner.size ≤ maxLen) :
    Calls Tryd.prog 15 #[valCert c] w fun e w' => e = .returned (.bool (certOk c)) ∧ Below w.heap.size w w' := by
  obtain ⟨ser, owner, iss, from_, to_, ca, depth, mark⟩ := c
  have H := Hp.nil w
  dsimp only at hs
  go_enter Tryd.func15, Tryd.ntmps15
  go_wp2_with (first | (go_at_call 64; refine (l01In_any _ _ _ _).mono ?_; rintro e w' ⟨rfl, rfl⟩) | (go_at_call 65; refine (PathOk_any _ _ hs).mono ?_; rintro e w1 ⟨rfl, hb1⟩; replace H := Hp.step (by repeat (first | (with_reducible exact H) | (with_reducible apply Hp.alloc) | (with_reducible apply Hp.set) | (with_reducible apply Hp.drew) | (with_reducible apply Hp.drewN) | (with_reducible apply Hp.bytesW) | (with_reducible exact Upd.here) | (with_reducible exact Upd.hereR) | (with_reducible apply Upd.there) | (with_reducible apply Sz.alloc) | (with_reducible apply Sz.set) | (with_reducible apply Sz.drew) | (with_reducible apply Sz.drewN) | (with_reducible apply Sz.bytesW) | (with_reducible assumption) | (with_reducible exact Sz.base _))) hb1; (try simp only [List.set_cons_zero, List.set_cons_succ, List.cons_append, List.nil_append] at H); have F := H.facts; simp only [Facts, NeF, box, row, reg, cellsF, ne_eq, true_and, and_true, Nat.reduceAdd, Nat.zero_add] at F))
  all_goals
    go_ret
    exact ⟨by simp [certOk, *], Hp.b (by repeat (first | (with_reducible exact H) | (with_reducible apply Hp.alloc) | (with_reducible apply Hp.set) | (with_reducible apply Hp.drew) | (with_reducible apply Hp.drewN) | (with_reducible apply Hp.bytesW) | (with_reducible exact Upd.here) | (with_reducible exact Upd.hereR) | (with_reducible apply Upd.there) | (with_reducible apply Sz.alloc) | (with_reducible apply Sz.set) | (with_reducible apply Sz.drew) | (with_reducible apply Sz.drewN) | (with_reducible apply Sz.bytesW) | (with_reducible assumption) | (with_reducible exact Sz.base _)))⟩
set_option maxHeartbeats 4000000 in
set_option maxRecDepth 10000 in
theorem isCert_any (c : Cert) (w : World) (hs : c.owner.size ≤ maxLen) (hml : mlOk w) :
    Calls Tryd.prog 66 #[valCert c] w fun e w' => e = .returned (.bool (certOk c)) ∧ Below w.heap.size w w' := by
  obtain ⟨ser, owner, iss, from_, to_, ca, depth, mark⟩ := c
  have H := Hp.nil w
  dsimp only at hs
  go_enter Tryd.func66, Tryd.ntmps66
  go_wp2_with (first | (go_at_call 69; refine (within_any _ _ _ _).mono ?_; rintro e w' ⟨rfl, rfl⟩) | (go_at_call 113; refine (isPath_any _ _ hs (hml.on (Hp.b (by repeat (first | (with_reducible exact H) | (with_reducible apply Hp.alloc) | (with_reducible apply Hp.set) | (with_reducible apply Hp.drew) | (with_reducible apply Hp.drewN) | (with_reducible apply Hp.bytesW) | (with_reducible exact Upd.here) | (with_reducible exact Upd.hereR) | (with_reducible apply Upd.there) | (with_reducible apply Sz.alloc) | (with_reducible apply Sz.set) | (with_reducible apply Sz.drew) | (with_reducible apply Sz.drewN) | (with_reducible apply Sz.bytesW) | (with_reducible assumption) | (with_reducible exact Sz.base _)))))).mono ?_; rintro e w1 ⟨rfl, hb1⟩; replace H := Hp.step (by repeat (first | (with_reducible exact H) | (with_reducible apply Hp.alloc) | (with_reducible apply Hp.set) | (with_reducible apply Hp.drew) | (with_reducible apply Hp.drewN) | (with_reducible apply Hp.bytesW) | (with_reducible exact Upd.here) | (with_reducible exact Upd.hereR) | (with_reducible apply Upd.there) | (with_reducible apply Sz.alloc) | (with_reducible apply Sz.set) | (with_reducible apply Sz.drew) | (with_reducible apply Sz.drewN) | (with_reducible apply Sz.bytesW) | (with_reducible assumption) | (with_reducible exact Sz.base _))) hb1; (try simp only [List.set_cons_zero, List.set_cons_succ, List.cons_append, List.nil_append] at H); have F := H.facts; simp only [Facts, NeF, box, row, reg, cellsF, ne_eq, true_and, and_true, Nat.reduceAdd, Nat.zero_add] at F))
  all_goals
    go_ret
    exact ⟨by simp [certOk, *], Hp.b (by repeat (first | (with_reducible exact H) | (with_reducible apply Hp.alloc) | (with_reducible apply Hp.set) | (with_reducible apply Hp.drew) | (with_reducible apply Hp.drewN) | (with_reducible apply Hp.bytesW) | (with_reducible exact Upd.here) | (with_reducible exact Upd.hereR) | (with_reducible apply Upd.there) | (with_reducible apply Sz.alloc) | (with_reducible apply Sz.set) | (with_reducible apply Sz.drew) | (with_reducible apply Sz.drewN) | (with_reducible apply Sz.bytesW) | (with_reducible assumption) | (with_reducible exact Sz.base _)))⟩
theorem implCertOk_any (c : Cert) (w : World) (hs : c.owner.size ≤ maxLen) (hml : mlOk w) :
    Calls Tryd.prog 17 #[valCert c] w fun e w' => e = .returned (.bool (certOk c)) ∧ Below w.heap.size w w' := by
  have H := Hp.nil w
  go_enter Tryd.func17, Tryd.ntmps17
  go_wp2_with (go_at_call 66; refine (isCert_any c _ hs (hml.on (Hp.b (by repeat (first | (with_reducible exact H) | (with_reducible apply Hp.alloc) | (with_reducible apply Hp.set) | (with_reducible apply Hp.drew) | (with_reducible apply Hp.drewN) | (with_reducible apply Hp.bytesW) | (with_reducible exact Upd.here) | (with_reducible exact Upd.hereR) | (with_reducible apply Upd.there) | (with_reducible apply Sz.alloc) | (with_reducible apply Sz.set) | (with_reducible apply Sz.drew) | (with_reducible apply Sz.drewN) | (with_reducible apply Sz.bytesW) | (with_reducible assumption) | (with_reducible exact Sz.base _)))))).mono ?_; rintro e w1 ⟨rfl, hb1⟩; replace H := Hp.step (by repeat (first | (with_reducible exact H) | (with_reducible apply Hp.alloc) | (with_reducible apply Hp.set) | (with_reducible apply Hp.drew) | (with_reducible apply Hp.drewN) | (with_reducible apply Hp.bytesW) | (with_reducible exact Upd.here) | (with_reducible exact Upd.hereR) | (with_reducible apply Upd.there) | (with_reducible apply Sz.alloc) | (with_reducible apply Sz.set) | (with_reducible apply Sz.drew) | (with_reducible apply Sz.drewN) | (with_reducible apply Sz.bytesW) | (with_reducible assumption) | (with_reducible exact Sz.base _))) hb1; (try simp only [List.set_cons_zero, List.set_cons_succ, List.cons_append, List.nil_append] at H))
  go_ret
  exact ⟨rfl, Hp.b (by repeat (first | (with_reducible exact H) | (with_reducible apply Hp.alloc) | (with_reducible apply Hp.set) | (with_reducible apply Hp.drew) | (with_reducible apply Hp.drewN) | (with_reducible apply Hp.bytesW) | (with_reducible exact Upd.here) | (with_reducible exact Upd.hereR) | (with_reducible apply Upd.there) | (with_reducible apply Sz.alloc) | (with_reducible apply Sz.set) | (with_reducible apply Sz.drew) | (with_reducible apply Sz.drewN) | (with_reducible apply Sz.bytesW) | (with_reducible assumption) | (with_reducible exact Sz.base _)))⟩
theorem toCert_any (c : Cert) (w : World) :
    Calls Tryd.prog 16 #[valCert c] w fun e w' => e = .returned (valCert c) ∧ Below w.heap.size w w' := by
  obtain ⟨ser, owner, iss, from_, to_, ca, depth, mark⟩ := c
  go_enter Tryd.func16, Tryd.ntmps16
  go_wp2
  refine bodyPost_ret (v := .agg #[.int .i64 ser, .string owner, .int .i64 iss, .int .i64 from_, .int .i64 to_, .bool ca, .int .i64 depth, .int .i64 mark]) (by simp [results, Tryd.results16, go_sem]) rfl ⟨rfl, ?_⟩
  go_grown
theorem szCert_any (c : Cert) (left : Int) (w : World) (h0 : 0 ≤ left) (h1 : left ≤ 1048576) (hs : c.owner.size ≤ maxLen) :
    Calls Tryd.prog 14 #[valCert c, .int .i64 left] w fun e w' => e = .returned (.int .i64 (leftOf left c.owner.size)) ∧ Below w.heap.size w w' := by
  obtain ⟨ser, owner, iss, from_, to_, ca, depth, mark⟩ := c
  dsimp only at hs ⊢
  unfold maxLen at hs
  by_cases c1 : left - (owner.size : Int) < 0
  · have HL : Hid (leftOf left owner.size = -1) := by show _ = _; rw [leftOf, if_neg (by omega)]
    go_enter Tryd.func14, Tryd.ntmps14
    go_wp2
    go_ret
    exact ⟨by rw [HL.out]; rfl, (Below.refl _ _).alloc (Nat.le_refl _) _⟩
  · have HL : Hid (leftOf left owner.size = left - (owner.size : Int)) := by show _ = _; rw [leftOf, if_pos (by omega)]
    go_enter Tryd.func14, Tryd.ntmps14
    go_wp2
    go_ret
    exact ⟨by rw [HL.out]; rfl, (Below.refl _ _).alloc (Nat.le_refl _) _⟩
set_option maxHeartbeats 2000000 in
set_option maxRecDepth 10000 in
theorem lawCertOk (c : Cert) (w : World) (hs : c.owner.size ≤ maxLen) (hml : mlOk w) :
    Calls Tryd.prog 3 #[valCert c] w fun e w' => e = .returned (.bool true) ∧ Below w.heap.size w w' := by
  have H := Hp.nil w
  have hnn : (certOk c != certOk c) = false := by simp
  have HS : Hid (∀ W, Calls Tryd.prog 15 #[valCert c] W fun e w' => e = .returned (.bool (certOk c)) ∧ Below W.heap.size W w') := fun W => specCertOk_any c W hs
  have HI : Hid (∀ W, mlOk W → Calls Tryd.prog 17 #[valCert c] W fun e w' => e = .returned (.bool (certOk c)) ∧ Below W.heap.size W w') := fun W h => implCertOk_any c W hs h
  have HT : Hid (∀ W, Calls Tryd.prog 16 #[valCert c] W fun e w' => e = .returned (valCert c) ∧ Below W.heap.size W w') := fun W => toCert_any c W
  have HZ : Hid (Calls Tryd.prog 14 #[valCert c, .int .i64 1048576] (w.alloc (.cells #[.int .i64 c.ser, .string c.owner, .int .i64 c.iss, .int .i64 c.from_, .int .i64 c.to_, .bool c.ca, .int .i64 c.depth, .int .i64 c.mark] 23)) fun e w' => e = .returned (.int .i64 (leftOf 1048576 c.owner.size)) ∧ Below (w.alloc (.cells #[.int .i64 c.ser, .string c.owner, .int .i64 c.iss, .int .i64 c.from_, .int .i64 c.to_, .bool c.ca, .int .i64 c.depth, .int .i64 c.mark] 23)).heap.size (w.alloc (.cells #[.int .i64 c.ser, .string c.owner, .int .i64 c.iss, .int .i64 c.from_, .int .i64 c.to_, .bool c.ca, .int .i64 c.depth, .int .i64 c.mark] 23)) w') := szCert_any c _ _ (by omega) (by omega) hs
  generalize certOk c = r at *
  obtain ⟨ser, owner, iss, from_, to_, ca, depth, mark⟩ := c
  dsimp only [valCert] at *
  go_enter Tryd.func3, Tryd.ntmps3
  go_wp2_with fail
  refine (HZ.out).mono ?_
  rintro e w1 ⟨rfl, hb1⟩
  replace H := Hp.step (by repeat (first | (with_reducible exact H) | (with_reducible apply Hp.alloc) | (with_reducible apply Hp.set) | (with_reducible apply Hp.drew) | (with_reducible apply Hp.drewN) | (with_reducible apply Hp.bytesW) | (with_reducible exact Upd.here) | (with_reducible exact Upd.hereR) | (with_reducible apply Upd.there) | (with_reducible apply Sz.alloc) | (with_reducible apply Sz.set) | (with_reducible apply Sz.drew) | (with_reducible apply Sz.drewN) | (with_reducible apply Sz.bytesW) | (with_reducible assumption) | (with_reducible exact Sz.base _))) hb1; (try simp only [List.set_cons_zero, List.set_cons_succ, List.cons_append, List.nil_append] at H); clear hb1 HZ
  have F := H.facts; simp only [Facts, NeF, box, row, reg, cellsF, ne_eq, true_and, and_true, Nat.reduceAdd, Nat.zero_add] at F
  by_cases hx : leftOf 1048576 owner.size < 0
  · go_wp2_with fail
    go_ret
    exact ⟨rfl, Hp.b (by repeat (first | (with_reducible exact H) | (with_reducible apply Hp.alloc) | (with_reducible apply Hp.set) | (with_reducible apply Hp.drew) | (with_reducible apply Hp.drewN) | (with_reducible apply Hp.bytesW) | (with_reducible exact Upd.here) | (with_reducible exact Upd.hereR) | (with_reducible apply Upd.there) | (with_reducible apply Sz.alloc) | (with_reducible apply Sz.set) | (with_reducible apply Sz.drew) | (with_reducible apply Sz.drewN) | (with_reducible apply Sz.bytesW) | (with_reducible assumption) | (with_reducible exact Sz.base _)))⟩
  go_wp2_with (first | (go_at_call 16; refine (HT.out _).mono ?_; rintro e w2 ⟨rfl, hb2⟩; replace H := Hp.step (by repeat (first | (with_reducible exact H) | (with_reducible apply Hp.alloc) | (with_reducible apply Hp.set) | (with_reducible apply Hp.drew) | (with_reducible apply Hp.drewN) | (with_reducible apply Hp.bytesW) | (with_reducible exact Upd.here) | (with_reducible exact Upd.hereR) | (with_reducible apply Upd.there) | (with_reducible apply Sz.alloc) | (with_reducible apply Sz.set) | (with_reducible apply Sz.drew) | (with_reducible apply Sz.drewN) | (with_reducible apply Sz.bytesW) | (with_reducible assumption) | (with_reducible exact Sz.base _))) hb2; (try simp only [List.set_cons_zero, List.set_cons_succ, List.cons_append, List.nil_append] at H); clear F; have F := H.facts; simp only [Facts, NeF, box, row, reg, cellsF, ne_eq, true_and, and_true, Nat.reduceAdd, Nat.zero_add] at F) | (go_at_call 15; refine (HS.out _).mono ?_; rintro e w3 ⟨rfl, hb3⟩; replace H := Hp.step (by repeat (first | (with_reducible exact H) | (with_reducible apply Hp.alloc) | (with_reducible apply Hp.set) | (with_reducible apply Hp.drew) | (with_reducible apply Hp.drewN) | (with_reducible apply Hp.bytesW) | (with_reducible exact Upd.here) | (with_reducible exact Upd.hereR) | (with_reducible apply Upd.there) | (with_reducible apply Sz.alloc) | (with_reducible apply Sz.set) | (with_reducible apply Sz.drew) | (with_reducible apply Sz.drewN) | (with_reducible apply Sz.bytesW) | (with_reducible assumption) | (with_reducible exact Sz.base _))) hb3; (try simp only [List.set_cons_zero, List.set_cons_succ, List.cons_append, List.nil_append] at H); clear F; have F := H.facts; simp only [Facts, NeF, box, row, reg, cellsF, ne_eq, true_and, and_true, Nat.reduceAdd, Nat.zero_add] at F) | (go_at_call 17; refine (HI.out _ (hml.on (Hp.b (by repeat (first | (with_reducible exact H) | (with_reducible apply Hp.alloc) | (with_reducible apply Hp.set) | (with_reducible apply Hp.drew) | (with_reducible apply Hp.drewN) | (with_reducible apply Hp.bytesW) | (with_reducible exact Upd.here) | (with_reducible exact Upd.hereR) | (with_reducible apply Upd.there) | (with_reducible apply Sz.alloc) | (with_reducible apply Sz.set) | (with_reducible apply Sz.drew) | (with_reducible apply Sz.drewN) | (with_reducible apply Sz.bytesW) | (with_reducible assumption) | (with_reducible exact Sz.base _)))))).mono ?_; rintro e w4 ⟨rfl, hb4⟩; replace H := Hp.step (by repeat (first | (with_reducible exact H) | (with_reducible apply Hp.alloc) | (with_reducible apply Hp.set) | (with_reducible apply Hp.drew) | (with_reducible apply Hp.drewN) | (with_reducible apply Hp.bytesW) | (with_reducible exact Upd.here) | (with_reducible exact Upd.hereR) | (with_reducible apply Upd.there) | (with_reducible apply Sz.alloc) | (with_reducible apply Sz.set) | (with_reducible apply Sz.drew) | (with_reducible apply Sz.drewN) | (with_reducible apply Sz.bytesW) | (with_reducible assumption) | (with_reducible exact Sz.base _))) hb4; (try simp only [List.set_cons_zero, List.set_cons_succ, List.cons_append, List.nil_append] at H); clear F; have F := H.facts; simp only [Facts, NeF, box, row, reg, cellsF, ne_eq, true_and, and_true, Nat.reduceAdd, Nat.zero_add] at F))
  go_ret
  exact ⟨rfl, Hp.b (by repeat (first | (with_reducible exact H) | (with_reducible apply Hp.alloc) | (with_reducible apply Hp.set) | (with_reducible apply Hp.drew) | (with_reducible apply Hp.drewN) | (with_reducible apply Hp.bytesW) | (with_reducible exact Upd.here) | (with_reducible exact Upd.hereR) | (with_reducible apply Upd.there) | (with_reducible apply Sz.alloc) | (with_reducible apply Sz.set) | (with_reducible apply Sz.drew) | (with_reducible apply Sz.drewN) | (with_reducible apply Sz.bytesW) | (with_reducible assumption) | (with_reducible exact Sz.base _)))⟩
end Go.Proofs.YtonbebacioocnaaDoor

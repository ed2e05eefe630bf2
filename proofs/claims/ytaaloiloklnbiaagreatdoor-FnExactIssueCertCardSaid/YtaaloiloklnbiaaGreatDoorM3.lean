/- Package slices at Cert. No condition. -/
import Derived.Test.YtaaloiloklnbiaaGreatDoorElCert
import Derived.Test.YtaaloiloklnbiaaGreatDoorSlice
import Derived.Deep.LoopGhost
import Derived.Shelf.Abstract
import Derived.WalkSpells
import Derived.Test.YtaaloiloklnbiaaGreatDoorElCertKey
namespace Go.Proofs.YtaaloiloklnbiaaGreatDoor
open Go.RowKit
set_option linter.unusedVariables false

theorem encCert_one : ∀ us : List Cert, ∀ u ∈ us.flatMap encCert, u.oneCell' = true := by
  intro us u hu
  obtain ⟨x, _, hx⟩ := List.mem_flatMap.1 hu
  simp only [encCert, List.mem_cons, List.not_mem_nil, or_false] at hx
  rcases hx with rfl | rfl | rfl | rfl | rfl | rfl | rfl | rfl <;> rfl

set_option maxHeartbeats 1000000 in
theorem cloneCert_any (A : Option Addr) (n c : Nat) (us : List Cert) (w : World) (hr : Rd w w.heap.size 8 A n c (us.flatMap encCert)) (hn : us.length = n) (hb20 : n ≤ 1048576) :
    Calls Tryz.prog 79 #[.slice A n c] w fun e w' => ∃ A' c', e = .returned (.slice A' n c') ∧ Own w' w.heap.size w'.heap.size 30 8 (.slice A' n c') n (us.flatMap encCert) ∧ Below w.heap.size w w' := by
  obtain ⟨i0, hi, hz0, hz1, hz2⟩ := info_parts Tryz.infoCert
  have hm := hr.2.2.1
  have hc := hr.2.1
  unfold maxLen at hm
  cases A with
  | none =>
    obtain ⟨rfl, rfl⟩ := hr.none_nil hn
    have q := fun (W : World) => Lib.run_eql_slice_nil (P := Tryz.prog) W 24 _ none 0 c 0 0 Tryz.underlying24
    go_enter Tryz.func79, Tryz.ntmps79
    go_wp2
    go_ret
    exact ⟨none, 0, rfl, Own.nil_ _ _ _, Below.refl _ _⟩
  | some ad =>
    have q := fun (W : World) => Lib.run_eql_slice_nil (P := Tryz.prog) W 24 _ (some ad) n c 0 0 Tryz.underlying24
    have hl := hr.1
    have hcs : ∀ W, Below w.heap.size w W → ∀ j u, (us.flatMap encCert)[j]? = some u → W.cell? (ad.add j) = some u := fun W h => hr.cells_some h
    go_enter Tryz.func79, Tryz.ntmps79
    go_wp2_with (at_builtin; refine wpList_append_own _ rfl _ _ 24 rfl w.heap.size 30 i0 _ 8 _ Tryz.underlying24 hi hz0 hz1 hz2 rfl (by decide) _ _ _ rfl (World.ownsRow_made w #[] 0 (Nat.le_refl _) (Nat.zero_le _) (by simp)) ad n c (us.flatMap encCert) rfl ?qc1 ?qc2 ?qc3 ?qc4 ?qc5 ?qc6 ?_)
    case qc1 => exact hl
    case qc2 => exact hcs _ (below_alloc _ _)
    case qc3 => exact encCert_one us
    case qc4 => unfold maxLen; omega
    case qc5 => omega
    case qc6 => simp
    intro v' w1 hown hgrow hnil
    go_wp2
    go_ret
    have hown' : w1.ownsRow w.heap.size 30 8 v' n (us.flatMap encCert) := by simpa using hown
    obtain ⟨A', c', rfl, -, -⟩ := own_rd hown'
    exact ⟨A', c', rfl, Own.of hown', ((Below.refl _ w).alloc (Nat.le_refl _) _).grown hgrow (by simp) (by intro k hk; simp [Value.ownBlock] at hk; omega)⟩

end Go.Proofs.YtaaloiloklnbiaaGreatDoor
namespace Go.Proofs.YtaaloiloklnbiaaGreatDoor
open Go.RowKit
set_option linter.unusedVariables false

theorem encCertKey_one : ∀ us : List CertKey, ∀ u ∈ us.flatMap encCertKey, u.oneCell' = true := by
  intro us u hu
  obtain ⟨x, _, hx⟩ := List.mem_flatMap.1 hu
  simp only [encCertKey, List.mem_cons, List.not_mem_nil, or_false] at hx
  rcases hx with rfl | rfl <;> rfl

set_option maxHeartbeats 1000000 in
theorem cloneCertKey_any (A : Option Addr) (n c : Nat) (us : List CertKey) (w : World) (hr : Rd w w.heap.size 2 A n c (us.flatMap encCertKey)) (hn : us.length = n) (hb20 : n ≤ 1048576) :
    Calls Tryz.prog 80 #[.slice A n c] w fun e w' => ∃ A' c', e = .returned (.slice A' n c') ∧ Own w' w.heap.size w'.heap.size 68 2 (.slice A' n c') n (us.flatMap encCertKey) ∧ Below w.heap.size w w' := by
  obtain ⟨i0, hi, hz0, hz1, hz2⟩ := info_parts Tryz.infoCertKey
  have hm := hr.2.2.1
  have hc := hr.2.1
  unfold maxLen at hm
  cases A with
  | none =>
    obtain ⟨rfl, rfl⟩ := hr.none_nil hn
    have q := fun (W : World) => Lib.run_eql_slice_nil (P := Tryz.prog) W 25 _ none 0 c 0 0 Tryz.underlying25
    go_enter Tryz.func80, Tryz.ntmps80
    go_wp2
    go_ret
    exact ⟨none, 0, rfl, Own.nil_ _ _ _, Below.refl _ _⟩
  | some ad =>
    have q := fun (W : World) => Lib.run_eql_slice_nil (P := Tryz.prog) W 25 _ (some ad) n c 0 0 Tryz.underlying25
    have hl := hr.1
    have hcs : ∀ W, Below w.heap.size w W → ∀ j u, (us.flatMap encCertKey)[j]? = some u → W.cell? (ad.add j) = some u := fun W h => hr.cells_some h
    go_enter Tryz.func80, Tryz.ntmps80
    go_wp2_with (at_builtin; refine wpList_append_own _ rfl _ _ 25 rfl w.heap.size 68 i0 _ 2 _ Tryz.underlying25 hi hz0 hz1 hz2 rfl (by decide) _ _ _ rfl (World.ownsRow_made w #[] 0 (Nat.le_refl _) (Nat.zero_le _) (by simp)) ad n c (us.flatMap encCertKey) rfl ?qc1 ?qc2 ?qc3 ?qc4 ?qc5 ?qc6 ?_)
    case qc1 => exact hl
    case qc2 => exact hcs _ (below_alloc _ _)
    case qc3 => exact encCertKey_one us
    case qc4 => unfold maxLen; omega
    case qc5 => omega
    case qc6 => simp
    intro v' w1 hown hgrow hnil
    go_wp2
    go_ret
    have hown' : w1.ownsRow w.heap.size 68 2 v' n (us.flatMap encCertKey) := by simpa using hown
    obtain ⟨A', c', rfl, -, -⟩ := own_rd hown'
    exact ⟨A', c', rfl, Own.of hown', ((Below.refl _ w).alloc (Nat.le_refl _) _).grown hgrow (by simp) (by intro k hk; simp [Value.ownBlock] at hk; omega)⟩

end Go.Proofs.YtaaloiloklnbiaaGreatDoor

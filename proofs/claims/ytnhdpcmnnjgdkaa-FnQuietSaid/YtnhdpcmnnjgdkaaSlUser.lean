/- Package slices at User. No condition. -/
import Derived.Test.YtnhdpcmnnjgdkaaElUser
import Derived.Test.YtnhdpcmnnjgdkaaM2
import Derived.Deep.LoopGhost
import Derived.Shelf.Abstract
import Derived.WalkSpells
set_option linter.unusedVariables false
set_option linter.unusedSimpArgs false
namespace Go.Proofs.Ytnhdpcmnnjgdkaa
open Go.RowKit
set_option linter.unusedVariables false

theorem encUser_one : ∀ us : List User, ∀ u ∈ us.flatMap encUser, u.oneCell' = true := by
  intro us u hu
  obtain ⟨x, _, hx⟩ := List.mem_flatMap.1 hu
  simp only [encUser, List.mem_cons, List.not_mem_nil, or_false] at hx
  rcases hx with rfl | rfl <;> rfl

set_option maxHeartbeats 1000000 in
theorem cloneUser_any (A : Option Addr) (n c : Nat) (us : List User) (w : World) (hr : Rd w w.heap.size 2 A n c (us.flatMap encUser)) (hn : us.length = n) (hb20 : n ≤ 1048576) :
    Calls Try.prog 47 #[.slice A n c] w fun e w' => ∃ A' c', e = .returned (.slice A' n c') ∧ Own w' w.heap.size w'.heap.size 53 2 (.slice A' n c') n (us.flatMap encUser) ∧ Below w.heap.size w w' := by
  obtain ⟨i0, hi, hz0, hz1, hz2⟩ := info_parts Try.infoUser
  have hm := hr.2.2.1
  have hc := hr.2.1
  unfold maxLen at hm
  cases A with
  | none =>
    obtain ⟨rfl, rfl⟩ := hr.none_nil hn
    have q := fun (W : World) => Lib.run_eql_slice_nil (P := Try.prog) W 27 _ none 0 c 0 0 Try.underlying27
    go_enter Try.func47, Try.ntmps47
    go_wp2
    go_ret
    exact ⟨none, 0, rfl, Own.nil_ _ _ _, Below.refl _ _⟩
  | some ad =>
    have q := fun (W : World) => Lib.run_eql_slice_nil (P := Try.prog) W 27 _ (some ad) n c 0 0 Try.underlying27
    have hl := hr.1
    have hcs : ∀ W, Below w.heap.size w W → ∀ j u, (us.flatMap encUser)[j]? = some u → W.cell? (ad.add j) = some u := fun W h => hr.cells_some h
    go_enter Try.func47, Try.ntmps47
    go_wp2_with (at_builtin; refine wpList_append_own _ rfl _ _ 27 rfl w.heap.size 53 i0 _ 2 _ Try.underlying27 hi hz0 hz1 hz2 rfl (by decide) _ _ _ rfl (World.ownsRow_made w #[] 0 (Nat.le_refl _) (Nat.zero_le _) (by simp)) ad n c (us.flatMap encUser) rfl ?qc1 ?qc2 ?qc3 ?qc4 ?qc5 ?qc6 ?_)
    case qc1 => exact hl
    case qc2 => exact hcs _ (below_alloc _ _)
    case qc3 => exact encUser_one us
    case qc4 => unfold maxLen; omega
    case qc5 => omega
    case qc6 => simp
    intro v' w1 hown hgrow hnil
    go_wp2
    go_ret
    have hown' : w1.ownsRow w.heap.size 53 2 v' n (us.flatMap encUser) := by simpa using hown
    obtain ⟨A', c', rfl, -, -⟩ := own_rd hown'
    exact ⟨A', c', rfl, Own.of hown', ((Below.refl _ w).alloc (Nat.le_refl _) _).grown hgrow (by simp) (by intro k hk; simp [Value.ownBlock] at hk; omega)⟩

end Go.Proofs.Ytnhdpcmnnjgdkaa

/- Package slices at Lease. No condition. -/
import Derived.Test.YtfoochgnilnddaaDoorElLease
import Derived.Test.YtfoochgnilnddaaDoorSlice
import Derived.Deep.LoopGhost
import Derived.Shelf.Abstract
import Derived.WalkSpells
namespace Go.Proofs.YtfoochgnilnddaaDoor
open Go.RowKit
set_option linter.unusedVariables false

theorem encLease_one : ∀ us : List Lease, ∀ u ∈ us.flatMap encLease, u.oneCell' = true := by
  intro us u hu
  obtain ⟨x, _, hx⟩ := List.mem_flatMap.1 hu
  simp only [encLease, List.mem_cons, List.not_mem_nil, or_false] at hx
  rcases hx with rfl | rfl | rfl | rfl | rfl | rfl <;> rfl

set_option maxHeartbeats 1000000 in
theorem cloneLease_any (A : Option Addr) (n c : Nat) (us : List Lease) (w : World) (hr : Rd w w.heap.size 6 A n c (us.flatMap encLease)) (hn : us.length = n) (hb20 : n ≤ 1048576) :
    Calls Tryd.prog 78 #[.slice A n c] w fun e w' => ∃ A' c', e = .returned (.slice A' n c') ∧ Own w' w.heap.size w'.heap.size 53 6 (.slice A' n c') n (us.flatMap encLease) ∧ Below w.heap.size w w' := by
  obtain ⟨i0, hi, hz0, hz1, hz2⟩ := info_parts Tryd.infoLease
  have hm := hr.2.2.1
  have hc := hr.2.1
  unfold maxLen at hm
  cases A with
  | none =>
    obtain ⟨rfl, rfl⟩ := hr.none_nil hn
    have q := fun (W : World) => Lib.run_eql_slice_nil (P := Tryd.prog) W 26 _ none 0 c 0 0 Tryd.underlying26
    go_enter Tryd.func78, Tryd.ntmps78
    go_wp2
    go_ret
    exact ⟨none, 0, rfl, Own.nil_ _ _ _, Below.refl _ _⟩
  | some ad =>
    have q := fun (W : World) => Lib.run_eql_slice_nil (P := Tryd.prog) W 26 _ (some ad) n c 0 0 Tryd.underlying26
    have hl := hr.1
    have hcs : ∀ W, Below w.heap.size w W → ∀ j u, (us.flatMap encLease)[j]? = some u → W.cell? (ad.add j) = some u := fun W h => hr.cells_some h
    go_enter Tryd.func78, Tryd.ntmps78
    go_wp2_with (at_builtin; refine wpList_append_own _ rfl _ _ 26 rfl w.heap.size 53 i0 _ 6 _ Tryd.underlying26 hi hz0 hz1 hz2 rfl (by decide) _ _ _ rfl (World.ownsRow_made w #[] 0 (Nat.le_refl _) (Nat.zero_le _) (by simp)) ad n c (us.flatMap encLease) rfl ?qc1 ?qc2 ?qc3 ?qc4 ?qc5 ?qc6 ?_)
    case qc1 => exact hl
    case qc2 => exact hcs _ (below_alloc _ _)
    case qc3 => exact encLease_one us
    case qc4 => unfold maxLen; omega
    case qc5 => omega
    case qc6 => simp
    intro v' w1 hown hgrow hnil
    go_wp2
    go_ret
    have hown' : w1.ownsRow w.heap.size 53 6 v' n (us.flatMap encLease) := by simpa using hown
    obtain ⟨A', c', rfl, -, -⟩ := own_rd hown'
    exact ⟨A', c', rfl, Own.of hown', ((Below.refl _ w).alloc (Nat.le_refl _) _).grown hgrow (by simp) (by intro k hk; simp [Value.ownBlock] at hk; omega)⟩

/-- What is asked of a predicate: it answers, and leaves what was there. -/
def PredLease (g : Nat) (cb : Array Value) (p : Lease → Bool) (w : World) : Prop := ∀ (W : World) (x : Lease), Below w.heap.size w W → Calls Tryd.prog g (#[.agg #[.int .i64 x.id, .int .i64 x.token, .string x.path, .int .i64 x.made, .int .i64 x.ends, .int .i64 x.limit]] ++ cb) W fun e w' => e = .returned (.bool (p x)) ∧ Below W.heap.size W w'
set_option maxHeartbeats 2000000 in
theorem indexFuncLease_any (g : Nat) (cb : Array Value) (p : Lease → Bool) (eg : ∀ args w, (callFunc g args).run Tryd.prog w = .ok (.enter g args) w) (A : Option Addr) (n c : Nat) (us : List Lease) (w : World) (hp : PredLease g cb p w) (hr : Rd w w.heap.size 6 A n c (us.flatMap encLease)) (hn : us.length = n) :
    Calls Tryd.prog 80 #[.slice A n c, .func (.func g) #[] cb] w fun e w' => e = .returned (.int .i64 (ixP p us 0)) ∧ Below w.heap.size w w' := by
  have hc := hr.2.1
  have hm := hr.2.2.1
  unfold maxLen at hm
  have HP := Lib.hid hp; clear hp
  go_enter Tryd.func80, Tryd.ntmps80
  go_wp2_with fail
  go_loopw [8] (fun i wr => ∃ k : Nat, k ≤ n ∧ i = .int .i64 k ∧ Below w.heap.size w wr ∧ Hid (ixP p us 0 = ixP p (us.drop k) k)) (fun i _ => n - (intOf i).toNat)
  case atStart => exact ⟨0, Nat.zero_le _, rfl, Below.refl _ _, rfl⟩
  case round =>
    obtain ⟨k, hk, rfl, HB, HE⟩ := hrel
    by_cases hlt : k < n
    · obtain ⟨b, off, rfl, hb, hcell⟩ := hr.elem encLease_len hn hlt
      have c0 := HB.cell (p := ⟨b, off + k * 6 + 0, none⟩) hb |>.trans (hcell 0 _ rfl)
      have c1 := HB.cell (p := ⟨b, off + k * 6 + 1, none⟩) hb |>.trans (hcell 1 _ rfl)
      have c2 := HB.cell (p := ⟨b, off + k * 6 + 2, none⟩) hb |>.trans (hcell 2 _ rfl)
      have c3 := HB.cell (p := ⟨b, off + k * 6 + 3, none⟩) hb |>.trans (hcell 3 _ rfl)
      have c4 := HB.cell (p := ⟨b, off + k * 6 + 4, none⟩) hb |>.trans (hcell 4 _ rfl)
      have c5 := HB.cell (p := ⟨b, off + k * 6 + 5, none⟩) hb |>.trans (hcell 5 _ rfl)
      simp only [Nat.add_zero] at c0
      have hk1 : (k : Int) < (n : Int) := by omega
      have hz := HB.size
      have hcall := HP.out wr us[k] HB
      cases he : p us[k] with
      | true =>
        have HN : Hid (ixP p us 0 = k) := by show _ = _; rw [HE.out, ixP_hit (by omega) he]
        rw [he] at hcall
        clear hcell he
        generalize us[k] = t at c0 c1 c2 c3 c4 c5 hcall
        have HC := Lib.hid hcall; clear hcall
        go_wp2_with (go_at_fn g; refine HC.out.mono ?_; rintro e w1 ⟨rfl, hb1⟩)
        go_ret
        exact ⟨by rw [HN.out]; rfl, blift HB hb1 hz⟩
      | false =>
        have HN : Hid (ixP p us 0 = ixP p (us.drop (k + 1)) (k + 1)) := by show _ = _; rw [HE.out, ixP_skip (by omega) he]
        rw [he] at hcall
        clear hcell he
        generalize us[k] = t at c0 c1 c2 c3 c4 c5 hcall
        have HC := Lib.hid hcall; clear hcall
        go_wp2_with (go_at_fn g; refine HC.out.mono ?_; rintro e w1 ⟨rfl, hb1⟩)
        go_roundw
        case rel => exact ⟨k + 1, by omega, by go_num, blift HB hb1 hz, HN⟩
        case measure => simp [intOf]; omega
    · have HN : Hid (ixP p us 0 = -1) := by
        show _ = _
        rw [HE.out, List.drop_eq_nil_of_le (by omega), ixP]
      go_wp2_with fail
      go_ret
      exact ⟨by rw [HN.out]; rfl, HB⟩
end Go.Proofs.YtfoochgnilnddaaDoor

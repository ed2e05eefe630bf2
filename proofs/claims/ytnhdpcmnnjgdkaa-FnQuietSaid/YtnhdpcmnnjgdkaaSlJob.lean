/- Package slices at Job. No condition. -/
import Derived.Test.YtnhdpcmnnjgdkaaElJob
import Derived.Test.YtnhdpcmnnjgdkaaM2
import Derived.Deep.LoopGhost
import Derived.Shelf.Abstract
import Derived.WalkSpells
set_option linter.unusedVariables false
set_option linter.unusedSimpArgs false
namespace Go.Proofs.Ytnhdpcmnnjgdkaa
open Go.RowKit
set_option linter.unusedVariables false

theorem encJob_one : ∀ us : List Job, ∀ u ∈ us.flatMap encJob, u.oneCell' = true := by
  intro us u hu
  obtain ⟨x, _, hx⟩ := List.mem_flatMap.1 hu
  simp only [encJob, List.mem_cons, List.not_mem_nil, or_false] at hx
  rcases hx with rfl | rfl | rfl <;> rfl

set_option maxHeartbeats 1000000 in
theorem cloneJob_any (A : Option Addr) (n c : Nat) (us : List Job) (w : World) (hr : Rd w w.heap.size 3 A n c (us.flatMap encJob)) (hn : us.length = n) (hb20 : n ≤ 1048576) :
    Calls Try.prog 46 #[.slice A n c] w fun e w' => ∃ A' c', e = .returned (.slice A' n c') ∧ Own w' w.heap.size w'.heap.size 45 3 (.slice A' n c') n (us.flatMap encJob) ∧ Below w.heap.size w w' := by
  obtain ⟨i0, hi, hz0, hz1, hz2⟩ := info_parts Try.infoJob
  have hm := hr.2.2.1
  have hc := hr.2.1
  unfold maxLen at hm
  cases A with
  | none =>
    obtain ⟨rfl, rfl⟩ := hr.none_nil hn
    have q := fun (W : World) => Lib.run_eql_slice_nil (P := Try.prog) W 24 _ none 0 c 0 0 Try.underlying24
    go_enter Try.func46, Try.ntmps46
    go_wp2
    go_ret
    exact ⟨none, 0, rfl, Own.nil_ _ _ _, Below.refl _ _⟩
  | some ad =>
    have q := fun (W : World) => Lib.run_eql_slice_nil (P := Try.prog) W 24 _ (some ad) n c 0 0 Try.underlying24
    have hl := hr.1
    have hcs : ∀ W, Below w.heap.size w W → ∀ j u, (us.flatMap encJob)[j]? = some u → W.cell? (ad.add j) = some u := fun W h => hr.cells_some h
    go_enter Try.func46, Try.ntmps46
    go_wp2_with (at_builtin; refine wpList_append_own _ rfl _ _ 24 rfl w.heap.size 45 i0 _ 3 _ Try.underlying24 hi hz0 hz1 hz2 rfl (by decide) _ _ _ rfl (World.ownsRow_made w #[] 0 (Nat.le_refl _) (Nat.zero_le _) (by simp)) ad n c (us.flatMap encJob) rfl ?qc1 ?qc2 ?qc3 ?qc4 ?qc5 ?qc6 ?_)
    case qc1 => exact hl
    case qc2 => exact hcs _ (below_alloc _ _)
    case qc3 => exact encJob_one us
    case qc4 => unfold maxLen; omega
    case qc5 => omega
    case qc6 => simp
    intro v' w1 hown hgrow hnil
    go_wp2
    go_ret
    have hown' : w1.ownsRow w.heap.size 45 3 v' n (us.flatMap encJob) := by simpa using hown
    obtain ⟨A', c', rfl, -, -⟩ := own_rd hown'
    exact ⟨A', c', rfl, Own.of hown', ((Below.refl _ w).alloc (Nat.le_refl _) _).grown hgrow (by simp) (by intro k hk; simp [Value.ownBlock] at hk; omega)⟩

/-- What is asked of a predicate: it answers, and leaves what was there. -/
def PredJob (g : Nat) (cb : Array Value) (p : Job → Bool) (w : World) : Prop := ∀ (W : World) (x : Job), Below w.heap.size w W → Calls Try.prog g (#[.agg #[.string x.name, .int .i64 x.at_, .int .i64 x.tries]] ++ cb) W fun e w' => e = .returned (.bool (p x)) ∧ Below W.heap.size W w'
set_option maxHeartbeats 2000000 in
theorem indexFuncJob_any (g : Nat) (cb : Array Value) (p : Job → Bool) (eg : ∀ args w, (callFunc g args).run Try.prog w = .ok (.enter g args) w) (A : Option Addr) (n c : Nat) (us : List Job) (w : World) (hp : PredJob g cb p w) (hr : Rd w w.heap.size 3 A n c (us.flatMap encJob)) (hn : us.length = n) :
    Calls Try.prog 44 #[.slice A n c, .func (.func g) #[] cb] w fun e w' => e = .returned (.int .i64 (ixP p us 0)) ∧ Below w.heap.size w w' := by
  have hc := hr.2.1
  have hm := hr.2.2.1
  unfold maxLen at hm
  have HP := Lib.hid hp; clear hp
  go_enter Try.func44, Try.ntmps44
  go_wp2_with fail
  go_loopw [8] (fun i wr => ∃ k : Nat, k ≤ n ∧ i = .int .i64 k ∧ Below w.heap.size w wr ∧ Hid (ixP p us 0 = ixP p (us.drop k) k)) (fun i _ => n - (intOf i).toNat)
  case atStart => exact ⟨0, Nat.zero_le _, rfl, Below.refl _ _, rfl⟩
  case round =>
    obtain ⟨k, hk, rfl, HB, HE⟩ := hrel
    by_cases hlt : k < n
    · obtain ⟨b, off, rfl, hb, hcell⟩ := hr.elem encJob_len hn hlt
      have c0 := HB.cell (p := ⟨b, off + k * 3 + 0, none⟩) hb |>.trans (hcell 0 _ rfl)
      have c1 := HB.cell (p := ⟨b, off + k * 3 + 1, none⟩) hb |>.trans (hcell 1 _ rfl)
      have c2 := HB.cell (p := ⟨b, off + k * 3 + 2, none⟩) hb |>.trans (hcell 2 _ rfl)
      simp only [Nat.add_zero] at c0
      have hk1 : (k : Int) < (n : Int) := by omega
      have hz := HB.size
      have hcall := HP.out wr us[k] HB
      cases he : p us[k] with
      | true =>
        have HN : Hid (ixP p us 0 = k) := by show _ = _; rw [HE.out, ixP_hit (by omega) he]
        rw [he] at hcall
        clear hcell he
        generalize us[k] = t at c0 c1 c2 hcall
        have HC := Lib.hid hcall; clear hcall
        go_wp2_with (go_at_fn g; refine HC.out.mono ?_; rintro e w1 ⟨rfl, hb1⟩)
        go_ret
        exact ⟨by rw [HN.out]; rfl, blift HB hb1 hz⟩
      | false =>
        have HN : Hid (ixP p us 0 = ixP p (us.drop (k + 1)) (k + 1)) := by show _ = _; rw [HE.out, ixP_skip (by omega) he]
        rw [he] at hcall
        clear hcell he
        generalize us[k] = t at c0 c1 c2 hcall
        have HC := Lib.hid hcall; clear hcall
        go_wp2_with (go_at_fn g; refine HC.out.mono ?_; rintro e w1 ⟨rfl, hb1⟩)
        go_roundw
        case rel => exact ⟨k + 1, by omega, by go_num, blift HB hb1 hz, HN⟩
        case measure => simp [intOf]; omega
    · have HN : Hid (ixP p us 0 = -1) := by
        show _ = _
        rw [HE.out, List.drop_eq_nil_of_le (by omega), ixP]
      go_wp2_with fail
      go_ret
      exact ⟨by rw [HN.out]; rfl, HB⟩
set_option maxHeartbeats 1000000 in
theorem containsFuncJob_any (g : Nat) (cb : Array Value) (p : Job → Bool) (eg : ∀ args w, (callFunc g args).run Try.prog w = .ok (.enter g args) w) (A : Option Addr) (n c : Nat) (us : List Job) (w : World) (hp : PredJob g cb p w) (hr : Rd w w.heap.size 3 A n c (us.flatMap encJob)) (hn : us.length = n) :
    Calls Try.prog 18 #[.slice A n c, .func (.func g) #[] cb] w fun e w' => e = .returned (.bool (anyP p us)) ∧ Below w.heap.size w w' := by
  have HH := ixP_any p us 0
  have HP := Lib.hid hp; clear hp
  go_enter Try.func18, Try.ntmps18
  go_wp2_with fail
  refine (indexFuncJob_any g cb p eg A n c us _ HP.out hr hn).mono ?_
  rintro e w1 ⟨rfl, hb1⟩
  cases hh : anyP p us with
  | true =>
    have h0 : decide (0 ≤ ixP p us 0) = true := by rw [hh] at HH; simpa using HH
    clear HH
    go_wp2_with fail
    go_ret
    exact ⟨by simp [hh], hb1⟩
  | false =>
    have h0 : decide (0 ≤ ixP p us 0) = false := by rw [hh] at HH; simpa using HH
    clear HH
    go_wp2_with fail
    go_ret
    exact ⟨by simp [hh], hb1⟩
end Go.Proofs.Ytnhdpcmnnjgdkaa

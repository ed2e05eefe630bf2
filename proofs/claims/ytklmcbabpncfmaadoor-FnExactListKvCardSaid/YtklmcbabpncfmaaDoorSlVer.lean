/- Package slices at Ver. No condition. -/
import Derived.Test.YtklmcbabpncfmaaDoorElVer
import Derived.Test.YtklmcbabpncfmaaDoorSlice
import Derived.Deep.LoopGhost
import Derived.Shelf.Abstract
import Derived.WalkSpells
namespace Go.Proofs.YtklmcbabpncfmaaDoor
open Go.RowKit
set_option linter.unusedVariables false

/-- What is asked of a predicate: it answers, and leaves what was there. -/
def PredVer (g : Nat) (cb : Array Value) (p : Ver → Bool) (w : World) : Prop := ∀ (W : World) (x : Ver), Below w.heap.size w W → Calls Tryd.prog g (#[.agg #[.slice x.da x.data.length x.dc, .int .i64 x.made, .bool x.gone, .bool x.dead]] ++ cb) W fun e w' => e = .returned (.bool (p x)) ∧ Below W.heap.size W w'
set_option maxHeartbeats 2000000 in
theorem indexFuncVer_any (g : Nat) (cb : Array Value) (p : Ver → Bool) (eg : ∀ args w, (callFunc g args).run Tryd.prog w = .ok (.enter g args) w) (A : Option Addr) (n c : Nat) (us : List Ver) (w : World) (hp : PredVer g cb p w) (hr : Rd w w.heap.size 4 A n c (us.flatMap encVer)) (hn : us.length = n) :
    Calls Tryd.prog 87 #[.slice A n c, .func (.func g) #[] cb] w fun e w' => e = .returned (.int .i64 (ixP p us 0)) ∧ Below w.heap.size w w' := by
  have hc := hr.2.1
  have hm := hr.2.2.1
  unfold maxLen at hm
  have HP := Lib.hid hp; clear hp
  go_enter Tryd.func87, Tryd.ntmps87
  go_wp2_with fail
  go_loopw [8] (fun i wr => ∃ k : Nat, k ≤ n ∧ i = .int .i64 k ∧ Below w.heap.size w wr ∧ Hid (ixP p us 0 = ixP p (us.drop k) k)) (fun i _ => n - (intOf i).toNat)
  case atStart => exact ⟨0, Nat.zero_le _, rfl, Below.refl _ _, rfl⟩
  case round =>
    obtain ⟨k, hk, rfl, HB, HE⟩ := hrel
    by_cases hlt : k < n
    · obtain ⟨b, off, rfl, hb, hcell⟩ := hr.elem encVer_len hn hlt
      have c0 := HB.cell (p := ⟨b, off + k * 4 + 0, none⟩) hb |>.trans (hcell 0 _ rfl)
      have c1 := HB.cell (p := ⟨b, off + k * 4 + 1, none⟩) hb |>.trans (hcell 1 _ rfl)
      have c2 := HB.cell (p := ⟨b, off + k * 4 + 2, none⟩) hb |>.trans (hcell 2 _ rfl)
      have c3 := HB.cell (p := ⟨b, off + k * 4 + 3, none⟩) hb |>.trans (hcell 3 _ rfl)
      simp only [Nat.add_zero] at c0
      have hk1 : (k : Int) < (n : Int) := by omega
      have hz := HB.size
      have hcall := HP.out wr us[k] HB
      cases he : p us[k] with
      | true =>
        have HN : Hid (ixP p us 0 = k) := by show _ = _; rw [HE.out, ixP_hit (by omega) he]
        rw [he] at hcall
        clear hcell he
        generalize us[k] = t at c0 c1 c2 c3 hcall
        have HC := Lib.hid hcall; clear hcall
        go_wp2_with (go_at_fn g; refine HC.out.mono ?_; rintro e w1 ⟨rfl, hb1⟩)
        go_ret
        exact ⟨by rw [HN.out]; rfl, blift HB hb1 hz⟩
      | false =>
        have HN : Hid (ixP p us 0 = ixP p (us.drop (k + 1)) (k + 1)) := by show _ = _; rw [HE.out, ixP_skip (by omega) he]
        rw [he] at hcall
        clear hcell he
        generalize us[k] = t at c0 c1 c2 c3 hcall
        have HC := Lib.hid hcall; clear hcall
        go_wp2_with (go_at_fn g; refine HC.out.mono ?_; rintro e w1 ⟨rfl, hb1⟩)
        go_roundw
        case rel => exact ⟨k + 1, by omega, by go_num, blift HB hb1 hz, HN⟩
        case measure => simp [intOf]; omega
    · have HN : Hid (ixP p us 0 = -1) := by
        show _ = _
        rw [HE.out, List.drop_eq_nil_of_le (by omega), ixP]
      go_wp2_with fail
      go_ret
      exact ⟨by rw [HN.out]; rfl, HB⟩
set_option maxHeartbeats 1000000 in
theorem containsFuncVer_any (g : Nat) (cb : Array Value) (p : Ver → Bool) (eg : ∀ args w, (callFunc g args).run Tryd.prog w = .ok (.enter g args) w) (A : Option Addr) (n c : Nat) (us : List Ver) (w : World) (hp : PredVer g cb p w) (hr : Rd w w.heap.size 4 A n c (us.flatMap encVer)) (hn : us.length = n) :
    Calls Tryd.prog 68 #[.slice A n c, .func (.func g) #[] cb] w fun e w' => e = .returned (.bool (anyP p us)) ∧ Below w.heap.size w w' := by
  have HH := ixP_any p us 0
  have HP := Lib.hid hp; clear hp
  go_enter Tryd.func68, Tryd.ntmps68
  go_wp2_with fail
  refine (indexFuncVer_any g cb p eg A n c us _ HP.out hr hn).mono ?_
  rintro e w1 ⟨rfl, hb1⟩
  cases hh : anyP p us with
  | true =>
    have h0 : decide (0 ≤ ixP p us 0) = true := by rw [hh] at HH; simpa using HH
    clear HH
    go_wp2_with fail
    go_ret
    exact ⟨by simp [hh], hb1⟩
  | false =>
    have h0 : decide (0 ≤ ixP p us 0) = false := by rw [hh] at HH; simpa using HH
    clear HH
    go_wp2_with fail
    go_ret
    exact ⟨by simp [hh], hb1⟩
end Go.Proofs.YtklmcbabpncfmaaDoor

/- Versions: which are valid: the program's. No condition. -/
import Derived.Test.YtklmcbabpncfmaaDoorStoreP
namespace Go.Proofs.YtklmcbabpncfmaaDoor
open Go.RowKit
set_option linter.unusedVariables false
set_option linter.unusedSimpArgs false
set_option maxHeartbeats 4000000 in
theorem isVer_any (v : Ver) (w : World) :
    Calls Tryd.prog 70 #[valVer v] w fun e w' => e = .returned (.bool (verOk v)) ∧ Below w.heap.size w w' := by
  have H := Hp.nil w
  obtain ⟨data, da, dc, made, gone, dead⟩ := v
  obtain ⟨r, hr⟩ : ∃ r, verOk ⟨data, da, dc, made, gone, dead⟩ = r := ⟨_, rfl⟩
  rw [hr]
  dsimp only [valVer] at *
  by_cases a1 : data.length ≤ 300
  rotate_left
  · have HR : Hid (r = false) := by show _ = _; rw [← hr]; simp [verOk, a1]
    have a1b : decide ((data.length : Int) ≤ 300) = false := decide_eq_false (by omega)
    have a2 : True := trivial
    clear hr
    go_enter Tryd.func70, Tryd.ntmps70
    go_wp2_with (go_at_call 67; refine (within_any _ _ _ _).mono ?_; rintro e w' ⟨rfl, rfl⟩; rw [a2])
    go_ret
    exact ⟨by rw [HR.out]; rfl, Hp.b (by repeat (first | (with_reducible exact H) | (with_reducible apply Hp.alloc) | (with_reducible apply Hp.set) | (with_reducible apply Hp.drew) | (with_reducible apply Hp.drewN) | (with_reducible apply Hp.bytesW) | (with_reducible exact Upd.here) | (with_reducible exact Upd.hereR) | (with_reducible apply Upd.there) | (with_reducible apply Sz.alloc) | (with_reducible apply Sz.set) | (with_reducible apply Sz.drew) | (with_reducible apply Sz.drewN) | (with_reducible apply Sz.bytesW) | (with_reducible assumption) | (with_reducible exact Sz.base _)))⟩
  have a1b : decide ((data.length : Int) ≤ 300) = true := decide_eq_true (by omega)
  cases a2 : inR made 0 1000000000 with
  | false =>
    have HR : Hid (r = false) := by show _ = _; rw [← hr]; simp [verOk, a2]
    clear hr
    go_enter Tryd.func70, Tryd.ntmps70
    go_wp2_with (go_at_call 67; refine (within_any _ _ _ _).mono ?_; rintro e w' ⟨rfl, rfl⟩; rw [a2])
    go_ret
    exact ⟨by rw [HR.out]; rfl, Hp.b (by repeat (first | (with_reducible exact H) | (with_reducible apply Hp.alloc) | (with_reducible apply Hp.set) | (with_reducible apply Hp.drew) | (with_reducible apply Hp.drewN) | (with_reducible apply Hp.bytesW) | (with_reducible exact Upd.here) | (with_reducible exact Upd.hereR) | (with_reducible apply Upd.there) | (with_reducible apply Sz.alloc) | (with_reducible apply Sz.set) | (with_reducible apply Sz.drew) | (with_reducible apply Sz.drewN) | (with_reducible apply Sz.bytesW) | (with_reducible assumption) | (with_reducible exact Sz.base _)))⟩
  | true =>
  cases dead with
  | false =>
    have HR : Hid (r = true) := by show _ = _; rw [← hr]; simp [verOk, a1, a2]
    clear hr
    go_enter Tryd.func70, Tryd.ntmps70
    go_wp2_with (go_at_call 67; refine (within_any _ _ _ _).mono ?_; rintro e w' ⟨rfl, rfl⟩; rw [a2])
    go_ret
    exact ⟨by rw [HR.out]; rfl, Hp.b (by repeat (first | (with_reducible exact H) | (with_reducible apply Hp.alloc) | (with_reducible apply Hp.set) | (with_reducible apply Hp.drew) | (with_reducible apply Hp.drewN) | (with_reducible apply Hp.bytesW) | (with_reducible exact Upd.here) | (with_reducible exact Upd.hereR) | (with_reducible apply Upd.there) | (with_reducible apply Sz.alloc) | (with_reducible apply Sz.set) | (with_reducible apply Sz.drew) | (with_reducible apply Sz.drewN) | (with_reducible apply Sz.bytesW) | (with_reducible assumption) | (with_reducible exact Sz.base _)))⟩
  | true =>
  by_cases a3 : data.length = 0
  · have a3b : ((data.length : Int) == 0) = true := beq_iff_eq.2 (by omega)
    have a3c : decide ((data.length : Int) = 0) = true := decide_eq_true (by omega)
    cases gone with
    | true =>
      have HR : Hid (r = false) := by show _ = _; rw [← hr]; simp [verOk]
      clear hr a3
      go_enter Tryd.func70, Tryd.ntmps70
      go_wp2_with (go_at_call 67; refine (within_any _ _ _ _).mono ?_; rintro e w' ⟨rfl, rfl⟩; rw [a2])
      go_ret
      exact ⟨by rw [HR.out]; rfl, Hp.b (by repeat (first | (with_reducible exact H) | (with_reducible apply Hp.alloc) | (with_reducible apply Hp.set) | (with_reducible apply Hp.drew) | (with_reducible apply Hp.drewN) | (with_reducible apply Hp.bytesW) | (with_reducible exact Upd.here) | (with_reducible exact Upd.hereR) | (with_reducible apply Upd.there) | (with_reducible apply Sz.alloc) | (with_reducible apply Sz.set) | (with_reducible apply Sz.drew) | (with_reducible apply Sz.drewN) | (with_reducible apply Sz.bytesW) | (with_reducible assumption) | (with_reducible exact Sz.base _)))⟩
    | false =>
      have HR : Hid (r = true) := by show _ = _; rw [← hr]; simp [verOk, a1, a2, a3]
      clear hr a3
      go_enter Tryd.func70, Tryd.ntmps70
      go_wp2_with (go_at_call 67; refine (within_any _ _ _ _).mono ?_; rintro e w' ⟨rfl, rfl⟩; rw [a2])
      go_ret
      exact ⟨by rw [HR.out]; rfl, Hp.b (by repeat (first | (with_reducible exact H) | (with_reducible apply Hp.alloc) | (with_reducible apply Hp.set) | (with_reducible apply Hp.drew) | (with_reducible apply Hp.drewN) | (with_reducible apply Hp.bytesW) | (with_reducible exact Upd.here) | (with_reducible exact Upd.hereR) | (with_reducible apply Upd.there) | (with_reducible apply Sz.alloc) | (with_reducible apply Sz.set) | (with_reducible apply Sz.drew) | (with_reducible apply Sz.drewN) | (with_reducible apply Sz.bytesW) | (with_reducible assumption) | (with_reducible exact Sz.base _)))⟩
  · have a3b : ((data.length : Int) == 0) = false := beq_eq_false_iff_ne.2 (by omega)
    have a3c : decide ((data.length : Int) = 0) = false := decide_eq_false (by omega)
    have HR : Hid (r = false) := by show _ = _; rw [← hr]; simp [verOk, a3]
    clear hr
    go_enter Tryd.func70, Tryd.ntmps70
    go_wp2_with (go_at_call 67; refine (within_any _ _ _ _).mono ?_; rintro e w' ⟨rfl, rfl⟩; rw [a2])
    go_ret
    exact ⟨by rw [HR.out]; rfl, Hp.b (by repeat (first | (with_reducible exact H) | (with_reducible apply Hp.alloc) | (with_reducible apply Hp.set) | (with_reducible apply Hp.drew) | (with_reducible apply Hp.drewN) | (with_reducible apply Hp.bytesW) | (with_reducible exact Upd.here) | (with_reducible exact Upd.hereR) | (with_reducible apply Upd.there) | (with_reducible apply Sz.alloc) | (with_reducible apply Sz.set) | (with_reducible apply Sz.drew) | (with_reducible apply Sz.drewN) | (with_reducible apply Sz.bytesW) | (with_reducible assumption) | (with_reducible exact Sz.base _)))⟩
end Go.Proofs.YtklmcbabpncfmaaDoor

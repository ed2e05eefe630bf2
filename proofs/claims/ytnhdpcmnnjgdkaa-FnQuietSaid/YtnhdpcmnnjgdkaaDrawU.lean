/- Draws of roles and of externals. No condition. -/
import Derived.Test.YtnhdpcmnnjgdkaaM2
import Derived.Test.YtnhdpcmnnjgdkaaName
import Derived.Test.YtnhdpcmnnjgdkaaPass
import Derived.Test.YtnhdpcmnnjgdkaaEnUser
import Derived.Deep.RegionHeld3
import Derived.Deep.DeepCutAuto
set_option linter.unusedVariables false
set_option linter.unusedSimpArgs false
namespace Go.Proofs.Ytnhdpcmnnjgdkaa
open Go.RowKit
set_option linter.unusedVariables false
set_option linter.unusedSimpArgs false
def AllT : List Value → Prop
  | [] => True
  | v :: vs => (∃ x : ByteArray, v = .string x ∧ x.size ≤ 20) ∧ AllT vs
theorem AllT.out : ∀ {cs : List Value}, AllT cs → ∀ v ∈ cs, ∃ x : ByteArray, v = .string x ∧ x.size ≤ 20
  | [], _, v, h => by cases h
  | c :: cs, ⟨hx, ht⟩, v, h => by
    rcases List.mem_cons.1 h with rfl | h
    · exact hx
    · exact AllT.out ht v h
set_option maxHeartbeats 1000000 in
theorem l01PickText_hp (b : Nat) (A : Option Addr) (n c : Nat) (bs : List UInt8) (w0 w : World) (L : List Ent) (g k : Nat) (cs : List Value) (H : Hp w0 w L) (hm : curE b A n c ∈ L) (hg : box g 9 cs ∈ L) (hk : cs.length = k) (h0 : 0 < k) (h1 : k ≤ 1000) (hP : AllT cs) (hr : Rd w0 w0.heap.size 1 A n c (bs.flatMap encByte)) (hn : bs.length = n) :
    Calls Try.prog 37 #[.pointer (some ⟨b, 0, none⟩), .slice (some ⟨g, 0, none⟩) k k] w fun e w' => ∃ x : ByteArray, e = .returned (.string x) ∧ x.size ≤ 20 ∧ Hp w0 w' L := by
  go_enter Try.func37, Try.ntmps37
  go_wp2_with fail
  refine (l01Below_hp b A n c bs w0 _ L k H hm hr hn (by omega) (by omega)).mono ?_
  rintro e w1 ⟨x, rfl, hx, H1⟩
  obtain ⟨j, rfl⟩ := Int.eq_ofNat_of_zero_le hx.1
  have hj : j < cs.length := by omega
  obtain ⟨y, hy, hPy⟩ := hP.out _ (List.getElem_mem hj)
  have hcell := (H1.boxM hg).cell j
  rw [List.getElem?_toArray, List.getElem?_eq_getElem hj, hy] at hcell
  have hj1 : (j : Int) < (k : Int) := hx.2
  have hj0 : (0 : Int) ≤ (j : Int) := hx.1
  go_wp2_with fail
  go_ret
  exact ⟨y, rfl, hPy, H1⟩
set_option maxHeartbeats 1000000 in
theorem l01Size_any (A : Option Addr) (n c : Nat) (bs : List UInt8) (w : World) (hr : Rd w w.heap.size 1 A n c (bs.flatMap encByte)) (hn : bs.length = n) :
    Calls Try.prog 33 #[.slice A n c, .int .i64 20] w fun e w' => ∃ x : Int, e = .returned (.int .i64 x) ∧ (0 < x ∧ x ≤ 20) ∧ Below w.heap.size w w' := by
  have hc := hr.2.1
  have hm := hr.2.2.1
  unfold maxLen at hm
  have H := Hp.nil w
  have e1 : (n : Int).tdiv 16 = (n : Int) / 16 := Int.tdiv_eq_ediv_of_nonneg (by omega)
  have hw0 : IntKind.i64.wrap ((n : Int) / 16) = (n : Int) / 16 := by rw [IntKind.wrap_i64]; omega
  have hw1 : IntKind.i64.wrap (2 + (n : Int) / 16) = 2 + (n : Int) / 16 := by rw [IntKind.wrap_i64]; omega
  by_cases h20 : (20 : Int) < 2 + (n : Int) / 16
  · go_enter Try.func33, Try.ntmps33
    go_wp2_with fail
    go_ret
    exact ⟨20, rfl, by omega, Hp.b (by repeat (first | (with_reducible exact H) | (with_reducible apply Hp.alloc) | (with_reducible apply Hp.set) | (with_reducible apply Hp.drew) | (with_reducible apply Hp.drewN) | (with_reducible apply Hp.bytesW) | (with_reducible exact Upd.here) | (with_reducible exact Upd.hereR) | (with_reducible apply Upd.there) | (with_reducible apply Sz.alloc) | (with_reducible apply Sz.set) | (with_reducible apply Sz.drew) | (with_reducible apply Sz.drewN) | (with_reducible apply Sz.bytesW) | (with_reducible assumption) | (with_reducible exact Sz.base _)))⟩
  · go_enter Try.func33, Try.ntmps33
    go_wp2_with fail
    go_ret
    exact ⟨2 + (n : Int) / 16, rfl, by omega, Hp.b (by repeat (first | (with_reducible exact H) | (with_reducible apply Hp.alloc) | (with_reducible apply Hp.set) | (with_reducible apply Hp.drew) | (with_reducible apply Hp.drewN) | (with_reducible apply Hp.bytesW) | (with_reducible exact Upd.here) | (with_reducible exact Upd.hereR) | (with_reducible apply Upd.there) | (with_reducible apply Sz.alloc) | (with_reducible apply Sz.set) | (with_reducible apply Sz.drew) | (with_reducible apply Sz.drewN) | (with_reducible apply Sz.bytesW) | (with_reducible assumption) | (with_reducible exact Sz.base _)))⟩
end Go.Proofs.Ytnhdpcmnnjgdkaa

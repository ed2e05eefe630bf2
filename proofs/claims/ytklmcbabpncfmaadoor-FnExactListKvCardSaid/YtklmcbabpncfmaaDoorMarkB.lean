/- Slices of bytes: marks laid and found again. No condition. -/
import Derived.Test.YtklmcbabpncfmaaDoorByte
import Derived.Test.YtklmcbabpncfmaaDoorHp
import Derived.Test.YtklmcbabpncfmaaDoorCore
import Derived.Deep.QuietTactic
import Derived.BigQuiet
import Derived.Deep.RegionWith
namespace Go.Proofs.YtklmcbabpncfmaaDoor
open Go.RowKit
set_option linter.unusedVariables false
set_option linter.unusedSimpArgs false
theorem byte_mark (x : Nat) : IntKind.u8.wrap (x : Int) = ((UInt8.ofNat x).toNat : Int) := by
  rw [IntKind.wrap_u8, UInt8.toNat_ofNat']
  omega
/-- The bytes that a mark from m on lays. -/
def mkB (m n : Nat) : List UInt8 := (List.range n).map fun i => UInt8.ofNat (m + i)
theorem mkB_len (m n : Nat) : (mkB m n).length = n := by simp [mkB]
def marksByte (m n : Nat) : List Value := (List.range n).flatMap fun i => [.int .u8 ((UInt8.ofNat (m + i)).toNat : Int)]
theorem marksByte_mk (m n : Nat) : marksByte m n = (mkB m n).flatMap encByte := by
  rw [marksByte, mkB, List.flatMap_map]; rfl
theorem marksByte_len (m n : Nat) : (marksByte m n).length = n := by
  rw [marksByte, flat_len (fun i => [.int .u8 ((UInt8.ofNat (m + i)).toNat : Int)]) 1 (fun _ => rfl)]; simp
set_option maxHeartbeats 4000000 in
theorem markByteS_any (A : Option Addr) (n c m lo hi : Nat) (xs : List Value) (w : World) (h : Own w lo hi 5 1 (.slice A n c) n xs) (h0 : 0 < m) (hm : m + n * 1 ≤ 1125899906842624) :
    Calls Tryd.prog 103 #[.slice A n c, .int .i64 m] w fun e w' => e = .returned (.int .i64 ((m + n * 1 : Nat) : Int)) ∧ Own w' lo hi 5 1 (.slice A n c) n (marksByte m n) ∧ Chg w w' lo hi := by
  have hr := h.rd
  have hc := hr.2.1
  have hmx := hr.2.2.1
  unfold maxLen at hmx
  clear hr
  go_enter Tryd.func103, Tryd.ntmps103
  go_wp2_with fail
  go_loopw [1, 5] (fun l i wr => ∃ k : Nat, k ≤ n ∧ i = .int .i64 k ∧ l = .int .i64 ((m + k : Nat) : Int) ∧ Chg w wr lo hi ∧ ∃ cs, Own wr lo hi 5 1 (.slice A n c) n cs ∧ Hid (cs.take (k * 1) = ((List.range n).take k).flatMap fun i => [.int .u8 ((UInt8.ofNat (m + i)).toNat : Int)])) (fun _ i _ => n - (intOf i).toNat)
  case atStart => exact ⟨0, Nat.zero_le _, rfl, by simp, Chg.refl _ _ _, xs, h, by show _ = _; simp⟩
  case round =>
    clear h
    obtain ⟨k, hk, rfl, rfl, HC, cs, own0, HT⟩ := hrel
    by_cases hlt : k < n
    · obtain ⟨g, rfl, hg1, hg2⟩ := own0.at_ (by omega)
      have HT' : Hid ((setL cs (k * 1) [.int .u8 ((UInt8.ofNat (m + k)).toNat : Int)]).take ((k + 1) * 1) = ((List.range n).take (k + 1)).flatMap fun i => [.int .u8 ((UInt8.ofNat (m + i)).toNat : Int)]) := by
        have := take_flat (us := List.range n) (enc := fun i => [.int .u8 ((UInt8.ofNat (m + i)).toNat : Int)]) (fun _ => rfl) (i := k) (by simpa using hlt) (by exact HT.out) (by rw [own0.1.1]; simp)
        rw [List.getElem_range] at this
        exact this
      obtain ⟨v0, -, d0⟩ := own_cell own0.1 (j := k * 1) (by omega)
      have f0 := own0.1.frozenAt (k * 1)
      have own1 := own0.set_in (j := k * 1) (.int .u8 ((UInt8.ofNat (m + k)).toNat : Int))
      have HC1 := HC.set (b := g) (o := k * 1) (.inl ⟨hg1, hg2⟩) (.int .u8 ((UInt8.ofNat (m + k)).toNat : Int))
      simp only [Nat.mul_one] at d0 f0 HC1 own1 HT'
      have O1 := Lib.hid own1
      have O2 := Lib.hid HC1
      clear own1 HC1
      have hwk : IntKind.u8.wrap ((m + k : Nat) : Int) = ((UInt8.ofNat (m + k)).toNat : Int) := byte_mark (m + k)
      have hwj : IntKind.u8.wrap ((m : Int) + (k : Int)) = ((UInt8.ofNat (m + k)).toNat : Int) := by rw [← byte_mark (m + k)]; rfl
      go_wp2
      go_roundw
      case rel => exact ⟨k + 1, by omega, by go_num, by go_num, by simpa using O2.out, _, by simpa using O1.out, by have h2 := HT'.out; simp only [setL, Nat.mul_one] at h2; show List.take ((k + 1) * 1) _ = _; rw [Nat.mul_one]; simpa using h2⟩
      case measure => simp [intOf]; omega
    · have HF : Hid (cs = marksByte m n) := by
        have h2 := HT.out
        rw [show k = n by omega] at h2
        exact take_flat_end (us := List.range n) (by simp) (by exact h2) own0.1.1
      have HK : Hid (k = n) := by show _ = _; omega
      go_wp2_with fail
      go_ret
      exact ⟨by rw [← HK.out]; simp, by rw [← HF.out]; exact own0, HC⟩
theorem markByteS_hp (A : Option Addr) (n c m : Nat) (mi : Int) (hmi : mi = (m : Int)) (xs : List Value) (w w0 : World) (L L' : List Ent) (H : Hp w0 w L) (hr : Rep L (row 5 1 (.slice A n c) n xs) (row 5 1 (.slice A n c) n (marksByte m n)) L') (h0 : 0 < m) (hm : m + n * 1 ≤ 1125899906842624) :
    Calls Tryd.prog 103 #[.slice A n c, .int .i64 mi] w fun e w' => e = .returned (.int .i64 ((m + n * 1 : Nat) : Int)) ∧ Hp w0 w' L' :=
  by subst hmi; exact (markByteS_any A n c m _ _ xs w (H.ownM hr.mem).1 h0 hm).mono fun e w' ⟨he, h, hc⟩ => ⟨he, H.chgM hr h hc⟩
end Go.Proofs.YtklmcbabpncfmaaDoor

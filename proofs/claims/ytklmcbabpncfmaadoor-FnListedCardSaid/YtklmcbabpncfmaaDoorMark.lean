/- The statements' marks: markText. No condition. -/
import Derived.Test.YtklmcbabpncfmaaDoorCore
import Derived.Test.YtklmcbabpncfmaaDoorMem
namespace Go.Proofs.YtklmcbabpncfmaaDoor
open Go.RowKit

/-- The last f decimal digits of a number, none for 0. -/
def dg : Nat → Nat → List UInt8
  | 0, _ => []
  | f + 1, n => if n = 0 then [] else dg f (n / 10) ++ [UInt8.ofNat (48 + n % 10)]
theorem dg_zero (f : Nat) : dg f 0 = [] := by cases f <;> simp [dg]
theorem dg_step {f n : Nat} (hn : 0 < n) (hf : n < 10 ^ f) : ∃ g, f = g + 1 ∧ n / 10 < 10 ^ g ∧ dg f n = dg g (n / 10) ++ [UInt8.ofNat (48 + n % 10)] := by
  cases f with
  | zero => simp at hf; omega
  | succ g => exact ⟨g, rfl, by rw [Nat.pow_succ] at hf; omega, by rw [dg, if_neg (by omega)]⟩
def mkText (x : Nat) : ByteArray := ⟨(109 :: dg 20 x).toArray⟩

set_option maxHeartbeats 1000000 in
set_option maxRecDepth 100000 in
theorem markText_any (x : Int) (w : World) (h0 : 0 < x) (h1 : x ≤ 1125899906842624) :
    Calls Tryd.prog 59 #[.int .i64 x] w fun e w' => e = .returned (.string (mkText x.toNat)) ∧ Below w.heap.size w w' := by
  go_enter Tryd.func59, Tryd.ntmps59
  go_wp2_with fail
  go_loopw [0, 3] (fun k o wr => ∃ (m f : Nat) (t : List UInt8), k = .int .i64 m ∧ o = .string ⟨t.toArray⟩ ∧ m ≤ 1125899906842624 ∧ Hid (m < 10 ^ f) ∧ t.length ≤ 20 ∧ Hid (f + t.length = 20) ∧ Hid (dg f m ++ t = dg 20 x.toNat) ∧ Below w.heap.size w wr) (fun k _ _ => (intOf k).toNat)
  case atStart => exact ⟨x.toNat, 20, [], by rw [Int.toNat_of_nonneg (by omega)], rfl, by omega, by show _ < _; omega, by simp, rfl, by show _ = _; simp, Below.refl _ _⟩
  case round =>
    obtain ⟨m, f, t, rfl, rfl, hm, HF, ht, HL, HD, HB⟩ := hrel
    by_cases hlt : 0 < m
    · have hcv : (convert 22 9 (.slice (some ⟨wr.heap.size, 0, none⟩) 1 1)).run Tryd.prog (wr.alloc (.cells #[.int .u8 (48 + (m : Int) % 10)] 5)) = .ok (.string ⟨[UInt8.ofNat (48 + m % 10)].toArray⟩) (wr.alloc (.cells #[.int .u8 (48 + (m : Int) % 10)] 5)) := by
        have h := run_convert_bytes_back (P := Tryd.prog) (wr.alloc (.cells #[.int .u8 (48 + (m : Int) % 10)] 5)) 22 9 5 ⟨wr.heap.size, 0, none⟩ 1 [UInt8.ofNat (48 + m % 10)] Tryd.underlying22 Tryd.underlying5 Tryd.underlying9 (fun j hj => by
          obtain rfl : j = 0 := by simpa using hj
          have hmod : (48 + m % 10) % 256 = 48 + m % 10 := by omega
          simp [go_sem, Addr.add, UInt8.toNat_ofNat', hmod])
        exact h
      obtain ⟨g, hg, hgl, hgd⟩ := dg_step hlt HF.out
      have HG : Hid (g + (UInt8.ofNat (48 + m % 10) :: t).length = 20) := by show _ = _; have := HL.out; simp; omega
      have HG2 : Hid (m / 10 < 10 ^ g) := hgl
      have HG3 : Hid (dg g (m / 10) ++ (UInt8.ofNat (48 + m % 10) :: t) = dg 20 x.toNat) := by show _ = _; rw [← HD.out, hgd]; simp
      have HG4 : Hid ((UInt8.ofNat (48 + m % 10) :: t).length ≤ 20) := by show _ ≤ _; have := HL.out; simp; omega
      clear hg hgl hgd
      go_wp2
      go_roundw
      case rel => exact ⟨m / 10, g, UInt8.ofNat (48 + m % 10) :: t, by go_num, congrArg Value.string (ByteArray.ext (by simp)), by omega, HG2, HG4.out, HG, HG3, HB.alloc HB.size _⟩
      case measure => simp [intOf]; omega
    · have HM : Hid (mkText x.toNat = ⟨[109].toArray⟩ ++ ⟨t.toArray⟩) := by
        show _ = _
        have := HD.out
        rw [show m = 0 by omega, dg_zero] at this
        rw [mkText, ← this]
        rfl
      go_wp2
      go_ret
      exact ⟨by rw [HM.out]; rfl, HB⟩
end Go.Proofs.YtklmcbabpncfmaaDoor

/- Numerals and six digits: contracts. No condition. -/
import Derived.Test.YtaaloiloklnbiaaDoorByte
import Derived.Test.YtaaloiloklnbiaaDoorNum
import Derived.Test.YtaaloiloklnbiaaDoorShelf
import Derived.Lib.ItoaMem
import Derived.Lib.AppendIntMem
namespace Go.Proofs.YtaaloiloklnbiaaDoor
open Go.RowKit
set_option linter.unusedVariables false
set_option linter.unusedSimpArgs false

theorem bytesOne (w : World) (x : Int) (d : UInt8) (hx : x = d.toNat) : (convert 22 9 (.slice (some ⟨w.heap.size, 0, none⟩) 1 1)).run Tryd.prog (w.alloc (.cells #[.int .u8 x] 5)) = .ok (.string ⟨[d].toArray⟩) (w.alloc (.cells #[.int .u8 x] 5)) := by
  subst hx
  exact run_convert_bytes_back (P := Tryd.prog) (w.alloc (.cells #[.int .u8 d.toNat] 5)) 22 9 5 ⟨w.heap.size, 0, none⟩ 1 [d] Tryd.underlying22 Tryd.underlying5 Tryd.underlying9 (fun j hj => by
    obtain rfl : j = 0 := by simpa using hj
    simp [go_sem, Addr.add])
theorem dch_nat (n : Nat) : ((dch n).toNat : Int) = 48 + (n : Int) % 10 := by
  unfold dch
  rw [UInt8.toNat_ofNat']
  have : (48 + n % 10) % 256 = 48 + n % 10 := by omega
  omega
set_option maxHeartbeats 2000000 in
set_option maxRecDepth 100000 in
theorem l01Num_any (x : Nat) (w : World) (hx : x ≤ 4611686018427387904) :
    Calls Tryd.prog 69 #[.int .i64 x] w fun e w' => e = .returned (.string ⟨(Go.Lib.decDigits x).toArray⟩) ∧ Below w.heap.size w w' := by
  by_cases h0 : x = 0
  · subst h0
    go_enter Tryd.func69, Tryd.ntmps69
    go_wp2_with fail
    go_ret
    exact ⟨by rw [dec_small (by omega)]; rfl, Below.refl _ _⟩
  have h1 : ((x : Int) == 0) = false := by simp; omega
  have h2 : ¬ (x : Int) < 0 := by omega
  have H := Hp.nil w
  go_enter Tryd.func69, Tryd.ntmps69
  go_wp2_with fail
  go_loopw [0, 3] (fun k o wr => ∃ (m f : Nat) (t : List UInt8), k = .int .i64 m ∧ o = .string ⟨t.toArray⟩ ∧ m ≤ 4611686018427387904 ∧ Hid (m < 10 ^ f) ∧ t.length ≤ 20 ∧ Hid (f + t.length = 20) ∧ Hid (ddL m ++ t = Go.Lib.decDigits x) ∧ Hid (Hp w wr [])) (fun k _ _ => (intOf k).toNat)
  case atStart => exact ⟨x, 20, [], rfl, rfl, by omega, by show _ < _; omega, by simp, rfl, by show _ = _; rw [ddL_pos (by omega)]; simp, H⟩
  case round =>
    clear H
    obtain ⟨m, f, t, rfl, rfl, hm, HF, ht, HL, HD, HP⟩ := hrel
    have H := HP.out
    by_cases hlt : 0 < m
    · have hcv := bytesOne wr (48 + (m : Int) % 10) (dch m) (dch_nat m).symm
      obtain ⟨g, hg, hgl⟩ : ∃ g, f = g + 1 ∧ m / 10 < 10 ^ g := by
        have hf := HF.out
        cases f with
        | zero => simp at hf; omega
        | succ g => exact ⟨g, rfl, by rw [Nat.pow_succ] at hf; omega⟩
      have HG : Hid (g + (dch m :: t).length = 20) := by show _ = _; have := HL.out; simp; omega
      have HG2 : Hid (m / 10 < 10 ^ g) := hgl
      have HG3 : Hid (ddL (m / 10) ++ (dch m :: t) = Go.Lib.decDigits x) := by show _ = _; rw [← HD.out, ddL_step hlt]; simp
      have HG4 : Hid ((dch m :: t).length ≤ 20) := by show _ ≤ _; have := HL.out; simp; omega
      have hm0 : ((m : Int) == 0) = false := by simp; omega
      have hm1 : ((m : Int) != 0) = true := by simp; omega
      have hm2 : (0 : Int) < m := by omega
      clear hg hgl
      go_wp2
      go_roundw
      case rel => exact ⟨m / 10, g, dch m :: t, by go_num, congrArg Value.string (ByteArray.ext (by simp)), by omega, HG2, HG4.out, HG, HG3, Lib.hid (Hp.give (by repeat (first | (with_reducible exact H) | (with_reducible apply Hp.alloc) | (with_reducible apply Hp.set) | (with_reducible apply Hp.drew) | (with_reducible apply Hp.drewN) | (with_reducible apply Hp.bytesW) | (with_reducible exact Upd.here) | (with_reducible exact Upd.hereR) | (with_reducible apply Upd.there) | (with_reducible apply Sz.alloc) | (with_reducible apply Sz.set) | (with_reducible apply Sz.drew) | (with_reducible apply Sz.drewN) | (with_reducible apply Sz.bytesW) | (with_reducible assumption) | (with_reducible exact Sz.base _))) [] (by decide) (by rfl))⟩
      case measure => simp [intOf]; omega
    · obtain rfl : m = 0 := by omega
      have HM : Hid (t = Go.Lib.decDigits x) := HD.out
      go_wp2
      go_ret
      exact ⟨by rw [← HM.out]; rfl, Hp.b (by repeat (first | (with_reducible exact H) | (with_reducible apply Hp.alloc) | (with_reducible apply Hp.set) | (with_reducible apply Hp.drew) | (with_reducible apply Hp.drewN) | (with_reducible apply Hp.bytesW) | (with_reducible exact Upd.here) | (with_reducible exact Upd.hereR) | (with_reducible apply Upd.there) | (with_reducible apply Sz.alloc) | (with_reducible apply Sz.set) | (with_reducible apply Sz.drew) | (with_reducible apply Sz.drewN) | (with_reducible apply Sz.bytesW) | (with_reducible assumption) | (with_reducible exact Sz.base _)))⟩
/-- The numbers' table is as the text has it. -/
def tabOk (w : World) : Prop := Go.Lib.TabIs Tryd.prog w "internal/strconv.uint64pow10" .u64 Go.Lib.pow10Tab
theorem tabOk.on {w w' : World} (h : tabOk w) (hb : Below w.heap.size w w') : tabOk w' := Go.Lib.tabBelow_of_tabIs h w' hb
theorem Itoa_any (n : Nat) (w : World) (hn : n ≤ 4611686018427387904) (ht : tabOk w) :
    Calls Tryd.prog 63 #[.int .i64 n] w fun e w' => e = .returned (.string ⟨(Go.Lib.decDigits n).toArray⟩) ∧ Below w.heap.size w w' :=
  (Go.Proofs.Tryd.strconv_Itoa n (by omega) (by omega) w ht).mono fun e w' ⟨he, k, os, hw⟩ => ⟨by rw [he, Go.Lib.itoa_nonneg], by rw [hw]; exact Go.Lib.below_grow _ _ (Nat.le_refl _) _ _⟩
def zeroS : ByteArray := ⟨#[48]⟩
set_option maxHeartbeats 1000000 in
theorem sixDigits_any (n : Nat) (w : World) (hn : n ≤ 4611686018427387904) (ht : tabOk w) :
    Calls Tryd.prog 66 #[.int .i64 n] w fun e w' => e = .returned (.string ⟨(padL 6 n).toArray⟩) ∧ Below w.heap.size w w' := by
  have hd : (Go.Lib.decDigits (n % 1000000)).length ≤ 6 := dec_len_le 5 _ (Nat.mod_lt _ (by decide))
  have HS : Hid (Go.Lib.repeatL [48] (6 - (Go.Lib.decDigits (n % 1000000)).length) ++ Go.Lib.decDigits (n % 1000000) = padL 6 n) := six_eq n
  have H := Hp.nil w
  go_enter Tryd.func66, Tryd.ntmps66
  go_wp2_with fail
  have e1 : (n : Int) % 1000000 = ((n % 1000000 : Nat) : Int) := by omega
  rw [e1]
  clear e1
  refine (Itoa_any (n % 1000000) _ (by omega) ht).mono ?_
  rintro e w1 ⟨rfl, hb1⟩
  replace H := Hp.step (by repeat (first | (with_reducible exact H) | (with_reducible apply Hp.alloc) | (with_reducible apply Hp.set) | (with_reducible apply Hp.drew) | (with_reducible apply Hp.drewN) | (with_reducible apply Hp.bytesW) | (with_reducible exact Upd.here) | (with_reducible exact Upd.hereR) | (with_reducible apply Upd.there) | (with_reducible apply Sz.alloc) | (with_reducible apply Sz.set) | (with_reducible apply Sz.drew) | (with_reducible apply Sz.drewN) | (with_reducible apply Sz.bytesW) | (with_reducible assumption) | (with_reducible exact Sz.base _))) hb1; (try simp only [List.set_cons_zero, List.set_cons_succ, List.cons_append, List.nil_append] at H)
  generalize Go.Lib.decDigits (n % 1000000) = ds at *
  go_wp2_with fail
  have e2 : (6 : Int) - (ds.length : Int) = ((6 - ds.length : Nat) : Int) := by omega
  rw [e2]
  clear e2
  generalize hc : 6 - ds.length = c at *
  refine (Go.Proofs.Tryd.strings_Repeat zeroS c _ (by omega) (by show 1 * c ≤ _; omega)).mono ?_
  rintro e w2 ⟨rfl, hb2⟩
  replace H := Hp.step (by repeat (first | (with_reducible exact H) | (with_reducible apply Hp.alloc) | (with_reducible apply Hp.set) | (with_reducible apply Hp.drew) | (with_reducible apply Hp.drewN) | (with_reducible apply Hp.bytesW) | (with_reducible exact Upd.here) | (with_reducible exact Upd.hereR) | (with_reducible apply Upd.there) | (with_reducible apply Sz.alloc) | (with_reducible apply Sz.set) | (with_reducible apply Sz.drew) | (with_reducible apply Sz.drewN) | (with_reducible apply Sz.bytesW) | (with_reducible assumption) | (with_reducible exact Sz.base _))) hb2; (try simp only [List.set_cons_zero, List.set_cons_succ, List.cons_append, List.nil_append] at H)
  have hz : zeroS.data.toList = [48] := rfl
  rw [hz]
  have hrl : (Go.Lib.repeatL [48] c).length ≤ 6 := by rw [Go.Lib.repeatL_length]; simp; omega
  clear hz hc
  generalize Go.Lib.repeatL [48] c = rs at *
  go_wp2_with fail
  go_ret
  exact ⟨by rw [← HS.out]; exact congrArg (fun b => Ending.returned (Value.string b)) (ByteArray.ext (by simp)), Hp.b (by repeat (first | (with_reducible exact H) | (with_reducible apply Hp.alloc) | (with_reducible apply Hp.set) | (with_reducible apply Hp.drew) | (with_reducible apply Hp.drewN) | (with_reducible apply Hp.bytesW) | (with_reducible exact Upd.here) | (with_reducible exact Upd.hereR) | (with_reducible apply Upd.there) | (with_reducible apply Sz.alloc) | (with_reducible apply Sz.set) | (with_reducible apply Sz.drew) | (with_reducible apply Sz.drewN) | (with_reducible apply Sz.bytesW) | (with_reducible assumption) | (with_reducible exact Sz.base _)))⟩
end Go.Proofs.YtaaloiloklnbiaaDoor

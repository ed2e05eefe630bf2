/- slices.Concat of two rows of bytes. No condition. -/
import Derived.Test.YtonbebacioocnaaDoorByte
import Derived.Lib.AppendZeros
namespace Go.Proofs.YtonbebacioocnaaDoor
open Go.RowKit
set_option linter.unusedVariables false
set_option linter.unusedSimpArgs false
set_option maxHeartbeats 1000000 in
set_option maxRecDepth 20000 in
theorem growNil_hp (n : Nat) (w : World) (h0 : 0 < n) (h1 : n ≤ 4194304) :
    Calls Tryd.prog 143 #[.slice none 0 0, .int .i64 n] w fun e w' => ∃ g c', e = .returned (.slice (some ⟨g, 0, none⟩) 0 c') ∧ Hp w w' [rByte (some ⟨g, 0, none⟩) c' []] := by
  obtain ⟨i0, hi0, hz0, hz1, hz2⟩ := info_parts Tryd.infoByte
  have hr := fun w => Go.Lib.run_append_nil_zeros (P := Tryd.prog) w 44 3 44 5 i0 (.int .u8 0) .i64 .i64 Tryd.underlying44 Tryd.underlying3 hi0 hz0 n h0 (by omega) (by omega) (by rw [hz2]; omega)
  have hcap := fun w => grownCap_ge w n 0 5
  have hcm := fun w => grownCap_le_maxLen w n 0 5 (by unfold maxLen; omega)
  have H := Hp.nil w
  go_enter Tryd.func143, Tryd.ntmps143
  go_wp2_with (at_builtin; refine Go.Lib.wpList_append_run _ (by rfl) _ _ 44 3 (by rfl) (.slice none 0 0) (.int .i64 n) (by rfl) (by rfl) _ _ (hr _) ?_)
  have hl : (Builtin.zeroCells #[Value.int IntKind.u8 0] n ++ Builtin.zeroCells #[Value.int IntKind.u8 0] (grownCap w n 0 5 - n)).toList.length = grownCap w n 0 5 * 1 := by
    have := hcap w
    simp [Builtin.zeroCells]
    omega
  have hcm' := hcm w
  have HR := Hp.boxRow (Hp.drew (Hp.allocA (t := 5) (arr := Builtin.zeroCells #[Value.int IntKind.u8 0] n ++ Builtin.zeroCells #[Value.int IntKind.u8 0] (grownCap w n 0 5 - n)) H (Sz.base w))) 0 1 0 (grownCap w n 0 5) rfl hl (Nat.zero_le _) hcm'
  clear hr hcap hcm
  go_ret
  exact ⟨w.heap.size, _, rfl, Hp.give HR [0] (by decide) (by simp; rfl)⟩

def part2 (k : Nat) (ls bs : List UInt8) : List UInt8 := if k = 0 then [] else if k = 1 then ls else ls ++ bs
set_option maxHeartbeats 2000000 in
set_option maxRecDepth 10000 in
theorem concat2_hp (b0 : Nat) (A : Option Addr) (c : Nat) (ls : List UInt8) (A2 : Option Addr) (c2 : Nat) (bs : List UInt8) (w : World) (h0 : w.cell? ⟨b0, 0, none⟩ = some (.slice A ls.length c)) (h1 : w.cell? ⟨b0, 1, none⟩ = some (.slice A2 bs.length c2)) (hb0 : b0 < w.heap.size)
    (hra : Rd w w.heap.size 1 A ls.length c (ls.flatMap encByte)) (hrb : Rd w w.heap.size 1 A2 bs.length c2 (bs.flatMap encByte)) (hla : 0 < ls.length) (hlb : 0 < bs.length) (ha20 : ls.length ≤ 2097152) (hb20 : bs.length ≤ 2097152) :
    Calls Tryd.prog 116 #[.slice (some ⟨b0, 0, none⟩) 2 2] w fun e w' => ∃ A' c', e = .returned (.slice A' (ls ++ bs).length c') ∧ Hp w w' [rByte A' c' (ls ++ bs)] := by
  obtain ⟨i0, hi0, hz0, hz1, hz2⟩ := info_parts Tryd.infoByte
  have H := Hp.nil w
  go_enter Tryd.func116, Tryd.ntmps116
  go_wp2_with fail
  go_loop [3, 11] (fun s i => (s = .int .i64 0 ∧ i = .int .i64 0) ∨ (s = .int .i64 ls.length ∧ i = .int .i64 1) ∨ (s = .int .i64 (ls.length + bs.length : Nat) ∧ i = .int .i64 2)) (fun _ i => 2 - (intOf i).toNat)
  case atStart => exact .inl ⟨rfl, rfl⟩
  case round =>
    rcases hrel with ⟨rfl, rfl⟩ | ⟨rfl, rfl⟩ | ⟨rfl, rfl⟩
    · go_wp2_with fail
      go_round
      case rel => exact .inr (.inl ⟨rfl, rfl⟩)
      case measure => simp [intOf]
    · go_wp2_with fail
      go_round
      case rel => exact .inr (.inr ⟨by go_num, rfl⟩)
      case measure => simp [intOf]
    · go_wp2_with fail
      have e1 : (ls.length : Int) + (bs.length : Int) = ((ls.length + bs.length : Nat) : Int) := by omega
      rw [e1]
      clear e1
      refine (growNil_hp (ls.length + bs.length) _ (by omega) (by omega)).mono ?_
      rintro e w1 ⟨g1, cg, rfl, e1⟩
      replace H := Hp.call (by repeat (first | (with_reducible exact H) | (with_reducible apply Hp.alloc) | (with_reducible apply Hp.set) | (with_reducible apply Hp.drew) | (with_reducible apply Hp.drewN) | (with_reducible apply Hp.bytesW) | (with_reducible exact Upd.here) | (with_reducible exact Upd.hereR) | (with_reducible apply Upd.there) | (with_reducible apply Sz.alloc) | (with_reducible apply Sz.set) | (with_reducible apply Sz.drew) | (with_reducible apply Sz.drewN) | (with_reducible apply Sz.bytesW) | (with_reducible assumption) | (with_reducible exact Sz.base _))) e1; (try simp only [List.set_cons_zero, List.set_cons_succ, List.cons_append, List.nil_append] at H)
      clear e1
      obtain ⟨ba, oa, rfl, hba, -⟩ := hra.2.2.2 hla
      obtain ⟨bb, ob, rfl, hbb, -⟩ := hrb.2.2.2 hlb
      have hh0 := h0
      have hh1 := h1
      go_wp2_with fail
      go_loopw [6, 27] (fun v i wr => ∃ k : Nat, k ≤ 2 ∧ i = .int .i64 k ∧ ∃ A' c', v = .slice A' (part2 k ls bs).length c' ∧ Hid (Hp w wr [rByte A' c' (part2 k ls bs)])) (fun _ i _ => 2 - (intOf i).toNat)
      case atStart => exact ⟨0, by omega, rfl, some ⟨g1, 0, none⟩, cg, rfl, Lib.hid H⟩
      case round =>
        clear H
        obtain ⟨k, hk, rfl, A', c', rfl, HP⟩ := hrel
        have H := HP.out
        have h0 := (H.b.cell (p := ⟨b0, 0, none⟩) hb0).trans hh0
        have h1 := (H.b.cell (p := ⟨b0, 1, none⟩) hb0).trans hh1
        have hk3 : k = 0 ∨ k = 1 ∨ k = 2 := by omega
        clear hh0 hh1 HP
        rcases hk3 with rfl | rfl | rfl
        · have P0 : part2 0 ls bs = [] := rfl
          have P1 : part2 1 ls bs = ls := rfl
          rw [P0] at H ⊢
          have HP1 := Lib.hid P1
          clear P0 P1
          replace H : Hp w wr [row 5 1 (.slice A' 0 c') 0 []] := H
          go_wp2_with (at_builtin; refine wpList_append_lies _ (by rfl) _ _ 44 (by rfl) w.heap.size 5 i0 _ 1 _ Tryd.underlying44 hi0 hz0 hz1 hz2 (by rfl) (by decide) (.slice A' 0 c') 0 _ (by rfl) (Hp.rowM (by repeat (first | (with_reducible exact H) | (with_reducible apply Hp.alloc) | (with_reducible apply Hp.set) | (with_reducible apply Hp.drew) | (with_reducible apply Hp.drewN) | (with_reducible apply Hp.bytesW) | (with_reducible exact Upd.here) | (with_reducible exact Upd.hereR) | (with_reducible apply Upd.there) | (with_reducible apply Sz.alloc) | (with_reducible apply Sz.set) | (with_reducible apply Sz.drew) | (with_reducible apply Sz.drewN) | (with_reducible apply Sz.bytesW) | (with_reducible assumption) | (with_reducible exact Sz.base _))) (by repeat (first | (with_reducible exact List.mem_cons_self) | (with_reducible apply List.mem_cons_of_mem)))) ⟨ba, oa, none⟩ ls.length c (ls.flatMap encByte) (by rfl) (by rw [flat_len encByte 1 encByte_len]) (Rd.newsF (hra.grow (Hp.b (by repeat (first | (with_reducible exact H) | (with_reducible apply Hp.alloc) | (with_reducible apply Hp.set) | (with_reducible apply Hp.drew) | (with_reducible apply Hp.drewN) | (with_reducible apply Hp.bytesW) | (with_reducible exact Upd.here) | (with_reducible exact Upd.hereR) | (with_reducible apply Upd.there) | (with_reducible apply Sz.alloc) | (with_reducible apply Sz.set) | (with_reducible apply Sz.drew) | (with_reducible apply Sz.drewN) | (with_reducible apply Sz.bytesW) | (with_reducible assumption) | (with_reducible exact Sz.base _)))))) (manyByte ls) hla (by unfold maxLen; omega) (by omega) (Hp.b (by repeat (first | (with_reducible exact H) | (with_reducible apply Hp.alloc) | (with_reducible apply Hp.set) | (with_reducible apply Hp.drew) | (with_reducible apply Hp.drewN) | (with_reducible apply Hp.bytesW) | (with_reducible exact Upd.here) | (with_reducible exact Upd.hereR) | (with_reducible apply Upd.there) | (with_reducible apply Sz.alloc) | (with_reducible apply Sz.set) | (with_reducible apply Sz.drew) | (with_reducible apply Sz.drewN) | (with_reducible apply Sz.bytesW) | (with_reducible assumption) | (with_reducible exact Sz.base _)))).size _ rfl ?_; intro g cap wa hown hgrow hat hlt1; have H5 := Hp.appM (by repeat (first | (with_reducible exact H) | (with_reducible apply Hp.alloc) | (with_reducible apply Hp.set) | (with_reducible apply Hp.drew) | (with_reducible apply Hp.drewN) | (with_reducible apply Hp.bytesW) | (with_reducible exact Upd.here) | (with_reducible exact Upd.hereR) | (with_reducible apply Upd.there) | (with_reducible apply Sz.alloc) | (with_reducible apply Sz.set) | (with_reducible apply Sz.drew) | (with_reducible apply Sz.drewN) | (with_reducible apply Sz.bytesW) | (with_reducible assumption) | (with_reducible exact Sz.base _))) (by repeat (first | (with_reducible exact Rep.here) | (with_reducible apply Rep.there))) hown hgrow hat rfl hlt1)
          go_roundw
          case rel =>
            have e2 : row 5 1 (.slice (some ⟨g, 0, none⟩) (0 + ls.length) cap) (0 + ls.length) ([] ++ ls.flatMap encByte) = rByte (some ⟨g, 0, none⟩) cap ls := by simp [rByte]
            rw [e2] at H5
            exact ⟨1, by omega, by go_num, some ⟨g, 0, none⟩, cap, (by rw [HP1.out]; all_goals simp), by rw [HP1.out]; exact Lib.hid H5⟩
          case measure => simp [intOf]
        · have P0 : part2 1 ls bs = ls := rfl
          have P1 : part2 2 ls bs = ls ++ bs := rfl
          rw [P0] at H ⊢
          have HP1 := Lib.hid P1
          clear P0 P1
          go_wp2_with (at_builtin; refine wpList_append_lies _ (by rfl) _ _ 44 (by rfl) w.heap.size 5 i0 _ 1 _ Tryd.underlying44 hi0 hz0 hz1 hz2 (by rfl) (by decide) (.slice A' (ls).length c') (ls).length _ (by rfl) (Hp.rowM (by repeat (first | (with_reducible exact H) | (with_reducible apply Hp.alloc) | (with_reducible apply Hp.set) | (with_reducible apply Hp.drew) | (with_reducible apply Hp.drewN) | (with_reducible apply Hp.bytesW) | (with_reducible exact Upd.here) | (with_reducible exact Upd.hereR) | (with_reducible apply Upd.there) | (with_reducible apply Sz.alloc) | (with_reducible apply Sz.set) | (with_reducible apply Sz.drew) | (with_reducible apply Sz.drewN) | (with_reducible apply Sz.bytesW) | (with_reducible assumption) | (with_reducible exact Sz.base _))) (by repeat (first | (with_reducible exact List.mem_cons_self) | (with_reducible apply List.mem_cons_of_mem)))) ⟨bb, ob, none⟩ bs.length c2 (bs.flatMap encByte) (by rfl) (by rw [flat_len encByte 1 encByte_len]) (Rd.newsF (hrb.grow (Hp.b (by repeat (first | (with_reducible exact H) | (with_reducible apply Hp.alloc) | (with_reducible apply Hp.set) | (with_reducible apply Hp.drew) | (with_reducible apply Hp.drewN) | (with_reducible apply Hp.bytesW) | (with_reducible exact Upd.here) | (with_reducible exact Upd.hereR) | (with_reducible apply Upd.there) | (with_reducible apply Sz.alloc) | (with_reducible apply Sz.set) | (with_reducible apply Sz.drew) | (with_reducible apply Sz.drewN) | (with_reducible apply Sz.bytesW) | (with_reducible assumption) | (with_reducible exact Sz.base _)))))) (manyByte bs) hlb (by unfold maxLen; omega) (by omega) (Hp.b (by repeat (first | (with_reducible exact H) | (with_reducible apply Hp.alloc) | (with_reducible apply Hp.set) | (with_reducible apply Hp.drew) | (with_reducible apply Hp.drewN) | (with_reducible apply Hp.bytesW) | (with_reducible exact Upd.here) | (with_reducible exact Upd.hereR) | (with_reducible apply Upd.there) | (with_reducible apply Sz.alloc) | (with_reducible apply Sz.set) | (with_reducible apply Sz.drew) | (with_reducible apply Sz.drewN) | (with_reducible apply Sz.bytesW) | (with_reducible assumption) | (with_reducible exact Sz.base _)))).size _ rfl ?_; intro g cap wa hown hgrow hat hlt1; have H5 := Hp.appM (by repeat (first | (with_reducible exact H) | (with_reducible apply Hp.alloc) | (with_reducible apply Hp.set) | (with_reducible apply Hp.drew) | (with_reducible apply Hp.drewN) | (with_reducible apply Hp.bytesW) | (with_reducible exact Upd.here) | (with_reducible exact Upd.hereR) | (with_reducible apply Upd.there) | (with_reducible apply Sz.alloc) | (with_reducible apply Sz.set) | (with_reducible apply Sz.drew) | (with_reducible apply Sz.drewN) | (with_reducible apply Sz.bytesW) | (with_reducible assumption) | (with_reducible exact Sz.base _))) (by repeat (first | (with_reducible exact Rep.here) | (with_reducible apply Rep.there))) hown hgrow hat rfl hlt1)
          go_roundw
          case rel =>
            have e2 : row 5 1 (.slice (some ⟨g, 0, none⟩) (ls.length + bs.length) cap) (ls.length + bs.length) (ls.flatMap encByte ++ bs.flatMap encByte) = rByte (some ⟨g, 0, none⟩) cap (ls ++ bs) := by simp [rByte]
            rw [e2] at H5
            exact ⟨2, by omega, by go_num, some ⟨g, 0, none⟩, cap, (by rw [HP1.out]; all_goals simp), by rw [HP1.out]; exact Lib.hid H5⟩
          case measure => simp [intOf]
        · have P1 : part2 2 ls bs = ls ++ bs := rfl
          rw [P1] at H ⊢
          have HH := Lib.hid H
          clear P1 H
          go_wp2_with fail
          go_ret
          exact ⟨A', c', by simp, HH.out⟩
end Go.Proofs.YtonbebacioocnaaDoor

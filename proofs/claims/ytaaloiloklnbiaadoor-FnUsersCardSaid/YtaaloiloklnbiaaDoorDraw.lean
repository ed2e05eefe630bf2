/- Draws: a cursor over bytes, and what it answers. No condition. -/
import Derived.Test.YtaaloiloklnbiaaDoorByte
import Derived.Test.YtaaloiloklnbiaaDoorEnInt
import Derived.Deep.QuietTactic
import Derived.BigQuiet
import Derived.Deep.RegionWith
namespace Go.Proofs.YtaaloiloklnbiaaDoor
open Go.RowKit
set_option linter.unusedVariables false
set_option linter.unusedSimpArgs false
abbrev curC (A : Option Addr) (n c : Nat) (i h : Int) : Array Value := #[.slice A n c, .int .i64 i, .int .i64 h]
theorem Bx.drew {w : World} {b : Nat} {t : TypeId} {cs : Array Value} (h : Bx w b t cs) : Bx w.drew b t cs := h
theorem Bx.drewN {w : World} {b m : Nat} {t : TypeId} {cs : Array Value} (h : Bx w b t cs) : Bx (w.drewN m) b t cs := h
theorem Chg.drew {a w : World} {lo hi : Nat} (h : Chg a w lo hi) : Chg a w.drew lo hi := ⟨h.os, h.tape, h.output, h.size, h.block⟩
theorem Chg.drewN {a w : World} {lo hi m : Nat} (h : Chg a w lo hi) : Chg a (w.drewN m) lo hi := ⟨h.os, h.tape, h.output, h.size, h.block⟩
theorem andN (x : Int) (m : Nat) (hm : m < 1099511627776) : 0 ≤ bits .and .i64 x m ∧ bits .and .i64 x m ≤ m := by
  show 0 ≤ IntKind.i64.wrap ((BitVec.ofInt 64 x &&& BitVec.ofInt 64 (m : Int)).toNat : Int) ∧ IntKind.i64.wrap ((BitVec.ofInt 64 x &&& BitVec.ofInt 64 (m : Int)).toNat : Int) ≤ m
  have h2 : (BitVec.ofInt 64 (m : Int)).toNat = m := by
    rw [BitVec.ofInt_natCast, BitVec.toNat_ofNat]; exact Nat.mod_eq_of_lt (by omega)
  rw [BitVec.toNat_and, h2, IntKind.wrap_i64]
  have : (BitVec.ofInt 64 x).toNat &&& m ≤ m := Nat.and_le_right
  omega
theorem and255 (x : Int) : 0 ≤ bits .and .i64 x 255 ∧ bits .and .i64 x 255 ≤ 255 := andN x 255 (by omega)
set_option maxHeartbeats 2000000 in
set_option maxRecDepth 10000 in
theorem l01Byte_raw (b : Nat) (A : Option Addr) (n c : Nat) (bs : List UInt8) (i h : Int) (w : World) (hB : Bx w b 93 (curC A n c i h)) (hi : 0 ≤ i ∧ i ≤ n) (hr : Rd w b 1 A n c (bs.flatMap encByte)) (hn : bs.length = n) :
    Calls Tryd.prog 57 #[.pointer (some ⟨b, 0, none⟩)] w fun e w' => ∃ x i' h' : Int, e = .returned (.int .i64 x) ∧ (0 ≤ x ∧ x ≤ 255) ∧ (0 ≤ i' ∧ i' ≤ n) ∧ Bx w' b 93 (curC A n c i' h') ∧ Chg w w' b (b + 1) := by
  have hc := hr.2.1
  have hm := hr.2.2.1
  unfold maxLen at hm
  have c0 := hB.cell 0
  have c1 := hB.cell 1
  have c2 := hB.cell 2
  have f0 := hB.frozen 0
  have f1 := hB.frozen 1
  have f2 := hB.frozen 2
  have hlt := hB.lt
  simp at c0 c1 c2
  obtain ⟨i, rfl⟩ := Int.eq_ofNat_of_zero_le hi.1
  by_cases hk : i < n
  · obtain ⟨a, off, rfl, ha, hcell⟩ := hr.elem encByte_len hn hk
    have d0 := hcell 0 _ rfl
    simp only [Nat.add_zero, Nat.mul_one] at d0
    have hne : a ≠ b := by omega
    have hne2 : b ≠ a := by omega
    have hk1 : (i : Int) < (n : Int) := by omega
    have hk0 : (0 : Int) ≤ (i : Int) := by omega
    clear hcell
    generalize bs[i] = y at *
    go_enter Tryd.func57, Tryd.ntmps57
    go_wp2_with fail
    go_quiet (fail)
    have hq := and255 (bits .xor .i64 (wrap64 (wrap64 (h * 6364136223846793005) + 1442695040888963407) / 8589934592) (wrap64 (wrap64 (h * 6364136223846793005) + 1442695040888963407) / 35184372088832))
    generalize bits .and .i64 (bits .xor .i64 (wrap64 (wrap64 (h * 6364136223846793005) + 1442695040888963407) / 8589934592) (wrap64 (wrap64 (h * 6364136223846793005) + 1442695040888963407) / 35184372088832)) 255 = x at *
    generalize wrap64 (wrap64 (h * 6364136223846793005) + 1442695040888963407) = h1 at *
    go_wp2_with fail
    go_quiet (fail)
    go_wp2_with fail
    go_quiet (fail)
    go_wp2_with fail
    have hx := ((hB.set (i := 2) (.int .i64 h1))).set (i := 1) (.int .i64 ((i : Int) + 1))
    simp [curC] at hx
    go_ret
    exact ⟨_, (i : Int) + 1, h1, rfl, and255 _, by omega, hx, ((Chg.refl w b (b + 1)).set (.inl ⟨Nat.le_refl _, Nat.lt_succ_self _⟩) _).drewN.set (.inl ⟨Nat.le_refl _, Nat.lt_succ_self _⟩) _⟩
  · have hk1 : ¬ (i : Int) < (n : Int) := by omega
    go_enter Tryd.func57, Tryd.ntmps57
    go_wp2_with fail
    go_quiet (fail)
    have hq := and255 (bits .xor .i64 (wrap64 (wrap64 (h * 6364136223846793005) + 1442695040888963407) / 8589934592) (wrap64 (wrap64 (h * 6364136223846793005) + 1442695040888963407) / 35184372088832))
    generalize bits .and .i64 (bits .xor .i64 (wrap64 (wrap64 (h * 6364136223846793005) + 1442695040888963407) / 8589934592) (wrap64 (wrap64 (h * 6364136223846793005) + 1442695040888963407) / 35184372088832)) 255 = x at *
    generalize wrap64 (wrap64 (h * 6364136223846793005) + 1442695040888963407) = h1 at *
    go_wp2_with fail
    go_quiet (fail)
    go_wp2_with fail
    have hx := (hB.set (i := 2) (.int .i64 h1))
    simp [curC] at hx
    go_ret
    exact ⟨_, (i : Int), h1, rfl, hq, hi, hx, (((Chg.refl w b (b + 1)).set (.inl ⟨Nat.le_refl _, Nat.lt_succ_self _⟩) _).drewN).drewN⟩
/-- A cursor over bytes that came in. -/
def curE (b : Nat) (A : Option Addr) (n c : Nat) : Ent :=
  reg (fun x => x = b) (fun w => ∃ i h : Int, (0 ≤ i ∧ i ≤ n) ∧ Bx w b 93 (curC A n c i h)) (fun w w' hk ⟨i, h, h1, hb⟩ => ⟨i, h, h1, (hk b rfl).trans hb⟩)
theorem mem_set_self {L : List Ent} {i : Nat} {e : Ent} (h : L[i]? = some e) : L.set i e = L := by
  apply List.ext_getElem?
  intro j
  rw [List.getElem?_set]
  by_cases hij : i = j
  · subst hij
    obtain ⟨h1, h2⟩ := List.getElem?_eq_some_iff.1 h
    simp [h1, h2]
  · simp [hij]
/-- One byte is drawn: the cursor stays a cursor. -/
theorem l01Byte_hp (b : Nat) (A : Option Addr) (n c : Nat) (bs : List UInt8) (w0 w : World) (L : List Ent) (H : Hp w0 w L) (hm : curE b A n c ∈ L) (hr : Rd w0 w0.heap.size 1 A n c (bs.flatMap encByte)) (hn : bs.length = n) :
    Calls Tryd.prog 57 #[.pointer (some ⟨b, 0, none⟩)] w fun e w' => ∃ x : Int, e = .returned (.int .i64 x) ∧ (0 ≤ x ∧ x ≤ 255) ∧ Hp w0 w' L := by
  obtain ⟨j, hj, hje⟩ := List.getElem_of_mem hm
  have hj' : L[j]? = some (curE b A n c) := by rw [List.getElem?_eq_getElem hj, hje]
  have hok := H.ok _ hm
  obtain ⟨i, h, hi, hB⟩ := hok.p
  have hlt := hok.lt b rfl
  refine (l01Byte_raw b A n c bs i h w hB hi ((hr.below H.b (Nat.le_refl _)).more hlt.1) hn).mono ?_
  rintro e w' ⟨x, i', h', rfl, hx, hi', hB', hC⟩
  refine ⟨x, rfl, hx, ?_⟩
  have H2 := H.mod (w' := w') j (curE b A n c) (curE b A n c) hj' (fun y hy => .inl hy) ⟨i', h', hi', hB'⟩ (fun y hy => by have : y = b := hy; subst this; exact hB'.lt) hC.os hC.tape hC.output hC.size (fun y hy hy' => hC.block y hy (by
    have : ¬ y = b := hy'
    omega))
  rwa [mem_set_self hj'] at H2
set_option maxHeartbeats 2000000 in
theorem l01Below_hp (b : Nat) (A : Option Addr) (n c : Nat) (bs : List UInt8) (w0 w : World) (L : List Ent) (m : Int) (H : Hp w0 w L) (hm : curE b A n c ∈ L) (hr : Rd w0 w0.heap.size 1 A n c (bs.flatMap encByte)) (hn : bs.length = n) (h0 : 0 < m) (h1 : m ≤ 1099511627776) :
    Calls Tryd.prog 26 #[.pointer (some ⟨b, 0, none⟩), .int .i64 m] w fun e w' => ∃ x : Int, e = .returned (.int .i64 x) ∧ (0 ≤ x ∧ x < m) ∧ Hp w0 w' L := by
  by_cases hs : m ≤ 256
  · go_enter Tryd.func26, Tryd.ntmps26
    go_wp2_with fail
    refine (l01Byte_hp b A n c bs w0 _ L H hm hr hn).mono ?_
    rintro e w1 ⟨x, rfl, hx, H1⟩
    have e1 : x.tmod m = x % m := Int.tmod_eq_emod_of_nonneg hx.1
    have h2 := Int.emod_nonneg x (by omega : m ≠ 0)
    have h3 := Int.emod_lt_of_pos x h0
    go_wp2_with fail
    go_ret
    exact ⟨x % m, rfl, ⟨h2, h3⟩, H1⟩
  · go_enter Tryd.func26, Tryd.ntmps26
    go_wp2_with fail
    refine (l01Byte_hp b A n c bs w0 _ L H hm hr hn).mono ?_
    rintro e w1 ⟨x, rfl, hx, H1⟩
    go_wp2_with fail
    refine (l01Byte_hp b A n c bs w0 _ L H1 hm hr hn).mono ?_
    rintro e w2 ⟨y, rfl, hy, H2⟩
    go_wp2_with fail
    refine (l01Byte_hp b A n c bs w0 _ L H2 hm hr hn).mono ?_
    rintro e w3 ⟨z, rfl, hz, H3⟩
    have h2 := Int.emod_nonneg (x * 65536 + y * 256 + z) (by omega : m ≠ 0)
    have h3 := Int.emod_lt_of_pos (x * 65536 + y * 256 + z) h0
    go_wp2_with fail
    go_ret
    exact ⟨(x * 65536 + y * 256 + z) % m, rfl, ⟨h2, h3⟩, H3⟩
theorem Hp.suf {w0 w : World} {L L' : List Ent} (H : Hp w0 w L') (h : L <:+ L') : Hp w0 w L := by
  obtain ⟨t, rfl⟩ := h
  exact ⟨H.b, fun e he => H.ok e (List.mem_append_right _ he), (List.pairwise_append.1 H.ap).2.1⟩
theorem Hp.boxM {w0 w : World} {L : List Ent} {t : TypeId} {b : Nat} {cs : List Value} (H : Hp w0 w L) (h : box b t cs ∈ L) : Bx w b t cs.toArray := (H.ok _ h).p
theorem l01Once_hp (b : Nat) (A : Option Addr) (n c : Nat) (bs : List UInt8) (w0 w : World) (L : List Ent) (m : Int) (H : Hp w0 w L) (hm : curE b A n c ∈ L) (hr : Rd w0 w0.heap.size 1 A n c (bs.flatMap encByte)) (hn : bs.length = n) (h0 : 0 < m) (h1 : m ≤ 1099511627776) :
    Calls Tryd.prog 25 #[.pointer (some ⟨b, 0, none⟩), .int .i64 m] w fun e w' => ∃ x : Bool, e = .returned (.bool x) ∧ Hp w0 w' L := by
  go_enter Tryd.func25, Tryd.ntmps25
  go_wp2_with fail
  refine (l01Below_hp b A n c bs w0 _ L m H hm hr hn h0 h1).mono ?_
  rintro e w1 ⟨x, rfl, hx, H1⟩
  go_wp2_with fail
  go_ret
  exact ⟨_, rfl, H1⟩
set_option maxHeartbeats 1000000 in
theorem l01PickInt_hp (b : Nat) (A : Option Addr) (n c : Nat) (bs : List UInt8) (w0 w : World) (L : List Ent) (g k : Nat) (cs : List Value) (P : Int → Prop) (H : Hp w0 w L) (hm : curE b A n c ∈ L) (hg : box g 3 cs ∈ L) (hk : cs.length = k) (h0 : 0 < k) (h1 : k ≤ 1000) (hP : ∀ v ∈ cs, ∃ x : Int, v = .int .i64 x ∧ P x) (hr : Rd w0 w0.heap.size 1 A n c (bs.flatMap encByte)) (hn : bs.length = n) :
    Calls Tryd.prog 56 #[.pointer (some ⟨b, 0, none⟩), .slice (some ⟨g, 0, none⟩) k k] w fun e w' => ∃ x : Int, e = .returned (.int .i64 x) ∧ P x ∧ Hp w0 w' L := by
  go_enter Tryd.func56, Tryd.ntmps56
  go_wp2_with fail
  refine (l01Below_hp b A n c bs w0 _ L k H hm hr hn (by omega) (by omega)).mono ?_
  rintro e w1 ⟨x, rfl, hx, H1⟩
  obtain ⟨j, rfl⟩ := Int.eq_ofNat_of_zero_le hx.1
  have hj : j < cs.length := by omega
  obtain ⟨y, hy, hPy⟩ := hP _ (List.getElem_mem hj)
  have hcell := (H1.boxM hg).cell j
  rw [List.getElem?_toArray, List.getElem?_eq_getElem hj, hy] at hcell
  have hj1 : (j : Int) < (k : Int) := hx.2
  have hj0 : (0 : Int) ≤ (j : Int) := hx.1
  go_wp2_with fail
  go_ret
  exact ⟨y, rfl, hPy, H1⟩
set_option maxHeartbeats 2000000 in
theorem l01New_hp (A : Option Addr) (n c : Nat) (bs : List UInt8) (w0 w : World) (L : List Ent) (H : Hp w0 w L) (hr : Rd w0 w0.heap.size 1 A n c (bs.flatMap encByte)) (hn : bs.length = n) :
    Calls Tryd.prog 52 #[.slice A n c] w fun e w' => ∃ b, e = .returned (.pointer (some ⟨b, 0, none⟩)) ∧ Hp w0 w' (curE b A n c :: L) := by
  have hc := hr.2.1
  have hm := hr.2.2.1
  unfold maxLen at hm
  have HH := Lib.hid H
  go_enter Tryd.func52, Tryd.ntmps52
  go_wp2_with fail
  go_loopw [3, 4] (fun h i wr => ∃ (k : Nat) (h0 : Int), k ≤ n ∧ i = .int .i64 k ∧ h = .int .i64 h0 ∧ Hid (wr = w)) (fun _ i _ => n - (intOf i).toNat)
  case atStart => exact ⟨0, _, Nat.zero_le _, rfl, rfl, by first | exact Lib.hid trivial | exact Lib.hid rfl⟩
  case round =>
    obtain ⟨k, h0, hk, rfl, rfl, HW⟩ := hrel
    have hw := HW.out
    subst hw
    by_cases hlt : k < n
    · have hk1 : (k : Int) < (n : Int) := by omega
      have hk0 : (0 : Int) ≤ (k : Int) := by omega
      by_cases hk4 : (k : Int) < 4000
      · obtain ⟨b, off, rfl, hb, hcell⟩ := hr.elem encByte_len hn hlt
        have c0 := H.b.cell (p := ⟨b, off + k * 1 + 0, none⟩) hb |>.trans (hcell 0 _ rfl)
        simp only [Nat.add_zero, Nat.mul_one] at c0
        clear hcell
        generalize bs[k] = y at *
        go_wp2_with fail
        go_roundw
        case rel => exact ⟨k + 1, _, by omega, by go_num, rfl, by first | exact Lib.hid trivial | exact Lib.hid rfl⟩
        case measure => simp [intOf]; omega
      · go_wp2_with fail
        go_ret
        have H5 : Hp w0 (wr.alloc (.cells #[.slice A n c, .int .i64 0, .int .i64 h0] 93)) (box wr.heap.size 93 [.slice A n c, .int .i64 0, .int .i64 h0] :: L) := (by repeat (first | (with_reducible exact H) | (with_reducible apply Hp.alloc) | (with_reducible apply Hp.set) | (with_reducible apply Hp.drew) | (with_reducible apply Hp.drewN) | (with_reducible apply Hp.bytesW) | (with_reducible exact Upd.here) | (with_reducible exact Upd.hereR) | (with_reducible apply Upd.there) | (with_reducible apply Sz.alloc) | (with_reducible apply Sz.set) | (with_reducible apply Sz.drew) | (with_reducible apply Sz.drewN) | (with_reducible apply Sz.bytesW) | (with_reducible assumption) | (with_reducible exact Sz.base _)))
        exact ⟨wr.heap.size, rfl, H5.as 0 (curE wr.heap.size A n c) rfl (fun _ h => h) (fun h => ⟨0, h0, by omega, h⟩)⟩
    · have hk1 : ¬ (k : Int) < (n : Int) := by omega
      go_wp2_with fail
      go_ret
      have H5 : Hp w0 (wr.alloc (.cells #[.slice A n c, .int .i64 0, .int .i64 h0] 93)) (box wr.heap.size 93 [.slice A n c, .int .i64 0, .int .i64 h0] :: L) := (by repeat (first | (with_reducible exact H) | (with_reducible apply Hp.alloc) | (with_reducible apply Hp.set) | (with_reducible apply Hp.drew) | (with_reducible apply Hp.drewN) | (with_reducible apply Hp.bytesW) | (with_reducible exact Upd.here) | (with_reducible exact Upd.hereR) | (with_reducible apply Upd.there) | (with_reducible apply Sz.alloc) | (with_reducible apply Sz.set) | (with_reducible apply Sz.drew) | (with_reducible apply Sz.drewN) | (with_reducible apply Sz.bytesW) | (with_reducible assumption) | (with_reducible exact Sz.base _)))
      exact ⟨wr.heap.size, rfl, H5.as 0 (curE wr.heap.size A n c) rfl (fun _ h => h) (fun h => ⟨0, h0, by omega, h⟩)⟩
end Go.Proofs.YtaaloiloklnbiaaDoor

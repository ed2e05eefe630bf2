/- The mark of a certificate in the reference: the walk. No condition. -/
import Derived.Test.YtlblkpcjknjijaaGreatDoorCertQ
import Derived.Test.YtlblkpcjknjijaaGreatDoorDig
import Derived.Test.YtlblkpcjknjijaaGreatDoorWide
import Derived.Test.YtlblkpcjknjijaaGreatDoorM2
import Derived.Deep.RegionWith
import Derived.RegionTactic
import Derived.Deep.AppendLies
import Derived.Deep.DrawnRows
set_option linter.unusedVariables false
set_option linter.unusedSimpArgs false
namespace Go.Proofs.YtlblkpcjknjijaaGreatDoor
open Go.RowKit
set_option linter.unusedVariables false
set_option linter.unusedSimpArgs false
attribute [local go_sem ↓] Go.wp_at_zero Go.wp_at_succ
def certNums (c : Cert) (key : Int) : List Nat := [key.toNat, c.ser.toNat, c.iss.toNat, c.from_.toNat, c.to_.toNat]
def flagB (c : Cert) : UInt8 := UInt8.ofNat (2 * c.depth.toNat + (if c.ca = true then 1 else 0))
def markL (c : Cert) (key : Int) : List UInt8 := ((certNums c key).flatMap wideL ++ [flagB c]) ++ c.owner.data.toList
def markF (c : Cert) (key : Int) : Int := if certOk c = true ∧ inR key 0 1099511627776 = true then dig (markL c key) else -1
theorem certOk_iff {c : Cert} (h : certOk c = true) : (1 ≤ c.ser ∧ c.ser ≤ 1000000000) ∧ c.owner.size ≤ 120 ∧ (0 ≤ c.iss ∧ c.iss ≤ 1000000000) ∧ (0 ≤ c.from_ ∧ c.from_ ≤ 1000000000) ∧ (0 ≤ c.to_ ∧ c.to_ ≤ 1000000000) ∧ (0 ≤ c.depth ∧ c.depth ≤ 6) := by
  simp only [certOk, Bool.and_eq_true, inR_true] at h
  obtain ⟨h1, h2, h3, _, h4, h5, h6, _⟩ := h
  have h7 : c.owner.size ≤ 120 := by
    simp [pathF, globF] at h2
    exact h2.1.1
  exact ⟨h1, h7, h3, h4, ⟨by omega, h5.2⟩, h6⟩
theorem flat_wide (ns : List Nat) : (ns.flatMap wideL).length = 8 * ns.length := by
  induction ns with
  | nil => rfl
  | cons a l ih => rw [List.flatMap_cons, List.length_append, wideL_len, ih, List.length_cons]; omega
theorem flat_take {ns : List Nat} {x : Nat} (h : x < ns.length) : (ns.take (x + 1)).flatMap wideL = (ns.take x).flatMap wideL ++ wideL ns[x] := by
  rw [List.take_succ_eq_append_getElem h, List.flatMap_append]; simp
/-- A text's bytes, converted: as an entry. -/
def bytesE (n : Nat) (s : ByteArray) : Ent :=
  reg (fun x => x = n) (fun w => ∃ cells fr, w.heap[n]? = some (.cells cells 5 fr) ∧ ∀ j, j < s.size → cells[j]? = some (.int .u8 (s.data.toList.getD j 0).toNat)) (fun w w' hk ⟨c, fr, h, hj⟩ => ⟨c, fr, (hk n rfl).trans h, hj⟩)
theorem Hp.bytesR {w0 w : World} {L : List Ent} {s : ByteArray} {n : Nat} (H : Hp w0 w L) (hs : Sz w n) : Hp w0 (Go.Lib.bytesWorld w 5 s) (bytesE n s :: L) := by
  have H1 := Hp.bytesW (e := 5) (s := s) H
  unfold Sz at hs
  refine ⟨H1.b, fun e he => ?_, List.Pairwise.cons (fun e he x hx hx' => ?_) H1.ap⟩
  · rcases List.mem_cons.1 he with rfl | he
    · refine ⟨⟨_, _, by rw [← hs]; exact Go.Lib.bytesWorld_at_new w _ s, fun j hj => ?_⟩, fun x hx => ?_⟩
      · have h := Go.Lib.bytesWorld_cell w 5 s j hj
        rwa [cell_of_row _ _ _ _ _ _ (Go.Lib.bytesWorld_at_new w 5 s)] at h
      · have hx : x = n := hx
        have := H.b.size
        rw [Go.Lib.bytesWorld_size]; omega
    · exact H1.ok e he
  · have hx : x = n := hx
    have := ((H.ok e he).lt x hx').2
    omega
theorem Hp.bytesRd {w0 w : World} {L : List Ent} {s : ByteArray} {n cap : Nat} (H : Hp w0 w L) (hm : bytesE n s ∈ L) (h1 : s.size ≤ cap) (h2 : cap ≤ maxLen) : Rd w w.heap.size 1 (some ⟨n, 0, none⟩) s.size cap (s.data.toList.flatMap encByte) := by
  obtain ⟨cells, fr, hb, hj⟩ := (H.ok _ hm).p
  have hl : s.data.toList.length = s.size := by simp
  refine ⟨by rw [flat_len encByte 1 encByte_len, hl], h1, h2, fun _ => ⟨n, 0, rfl, (Array.getElem?_eq_some_iff.1 hb).1, fun j u hu => ?_⟩⟩
  obtain ⟨h1, h2⟩ := encByte_get hu
  rw [Nat.zero_add, cell_of_row _ _ _ _ _ _ hb, hj j (by omega), h2]
theorem l01Join_n (A : Option Addr) (n c : Nat) (ls : List UInt8) (A2 : Option Addr) (n2 c2 : Nat) (bs : List UInt8) (w : World) (hra : Rd w w.heap.size 1 A n c (ls.flatMap encByte)) (hr : Rd w w.heap.size 1 A2 n2 c2 (bs.flatMap encByte)) (hn : ls.length = n) (hn2 : bs.length = n2) (ha20 : ls.length ≤ 2097152) (hb20 : bs.length ≤ 2097152) :
    Calls Tryz.prog 53 #[.slice A n c, .slice A2 n2 c2] w fun e w' => ∃ A' c', e = .returned (.slice A' (ls ++ bs).length c') ∧ Hp w w' [rByte A' c' (ls ++ bs)] := by
  subst hn hn2
  exact l01Join_hp A c ls A2 c2 bs w hra hr ha20 hb20
set_option maxHeartbeats 8000000 in
set_option maxRecDepth 100000 in
theorem specMarkOf_any (c : Cert) (key : Int) (w : World) (hs : c.owner.size ≤ maxLen) :
    Calls Tryz.prog 26 #[valCert c, .int .i64 key] w fun e w' => e = .returned (.int .i64 (markF c key)) ∧ Below w.heap.size w w' := by
  obtain ⟨i0, hi0, hz0, hz1, hz2⟩ := info_parts Tryz.infoByte
  have H := Hp.nil w
  have HS : Hid (∀ W, Calls Tryz.prog 21 #[valCert c] W fun e w' => e = .returned (.bool (certOk c)) ∧ Below W.heap.size W w') := fun W => specCertOk_any c W hs
  cases hc : certOk c with
  | false =>
    have HR : Hid (markF c key = -1) := by show _ = _; rw [markF, if_neg (by rw [hc]; simp)]
    rw [hc] at HS
    obtain ⟨ser, owner, iss, from_, to_, ca, depth, mark⟩ := c
    go_enter Tryz.func26, Tryz.ntmps26
    go_wp2_with (first | (go_at_call 21; refine (HS.out _).mono ?_; rintro e w1 ⟨rfl, hb1⟩; replace H := Hp.step (by repeat (first | (with_reducible exact H) | (with_reducible apply Hp.alloc) | (with_reducible apply Hp.set) | (with_reducible apply Hp.drew) | (with_reducible apply Hp.drewN) | (with_reducible apply Hp.bytesW) | (with_reducible exact Upd.here) | (with_reducible exact Upd.hereR) | (with_reducible apply Upd.there) | (with_reducible apply Sz.alloc) | (with_reducible apply Sz.set) | (with_reducible apply Sz.drew) | (with_reducible apply Sz.drewN) | (with_reducible apply Sz.bytesW) | (with_reducible assumption) | (with_reducible exact Sz.base _))) hb1; (try simp only [List.set_cons_zero, List.set_cons_succ, List.cons_append, List.nil_append] at H); have F := H.facts; simp only [Facts, NeF, box, row, reg, cellsF, rByte, ne_eq, true_and, and_true, Nat.reduceAdd, Nat.zero_add] at F) | (go_at_call 22; refine (l04Key_any _ _).mono ?_; rintro e w' ⟨rfl, rfl⟩))
    go_ret
    exact ⟨by rw [HR.out]; rfl, Hp.b (by repeat (first | (with_reducible exact H) | (with_reducible apply Hp.alloc) | (with_reducible apply Hp.set) | (with_reducible apply Hp.drew) | (with_reducible apply Hp.drewN) | (with_reducible apply Hp.bytesW) | (with_reducible exact Upd.here) | (with_reducible exact Upd.hereR) | (with_reducible apply Upd.there) | (with_reducible apply Sz.alloc) | (with_reducible apply Sz.set) | (with_reducible apply Sz.drew) | (with_reducible apply Sz.drewN) | (with_reducible apply Sz.bytesW) | (with_reducible assumption) | (with_reducible exact Sz.base _)))⟩
  | true =>
  cases hk : inR key 0 1099511627776 with
  | false =>
    have HR : Hid (markF c key = -1) := by show _ = _; rw [markF, if_neg (by rw [hk]; simp)]
    rw [hc] at HS
    obtain ⟨ser, owner, iss, from_, to_, ca, depth, mark⟩ := c
    go_enter Tryz.func26, Tryz.ntmps26
    go_wp2_with (first | (go_at_call 21; refine (HS.out _).mono ?_; rintro e w1 ⟨rfl, hb1⟩; replace H := Hp.step (by repeat (first | (with_reducible exact H) | (with_reducible apply Hp.alloc) | (with_reducible apply Hp.set) | (with_reducible apply Hp.drew) | (with_reducible apply Hp.drewN) | (with_reducible apply Hp.bytesW) | (with_reducible exact Upd.here) | (with_reducible exact Upd.hereR) | (with_reducible apply Upd.there) | (with_reducible apply Sz.alloc) | (with_reducible apply Sz.set) | (with_reducible apply Sz.drew) | (with_reducible apply Sz.drewN) | (with_reducible apply Sz.bytesW) | (with_reducible assumption) | (with_reducible exact Sz.base _))) hb1; (try simp only [List.set_cons_zero, List.set_cons_succ, List.cons_append, List.nil_append] at H); have F := H.facts; simp only [Facts, NeF, box, row, reg, cellsF, rByte, ne_eq, true_and, and_true, Nat.reduceAdd, Nat.zero_add] at F) | (go_at_call 22; refine (l04Key_any _ _).mono ?_; rintro e w' ⟨rfl, rfl⟩))
    go_ret
    exact ⟨by rw [HR.out]; rfl, Hp.b (by repeat (first | (with_reducible exact H) | (with_reducible apply Hp.alloc) | (with_reducible apply Hp.set) | (with_reducible apply Hp.drew) | (with_reducible apply Hp.drewN) | (with_reducible apply Hp.bytesW) | (with_reducible exact Upd.here) | (with_reducible exact Upd.hereR) | (with_reducible apply Upd.there) | (with_reducible apply Sz.alloc) | (with_reducible apply Sz.set) | (with_reducible apply Sz.drew) | (with_reducible apply Sz.drewN) | (with_reducible apply Sz.bytesW) | (with_reducible assumption) | (with_reducible exact Sz.base _)))⟩
  | true =>
  have HR : Hid (markF c key = dig (markL c key)) := by show _ = _; rw [markF, if_pos ⟨hc, hk⟩]
  obtain ⟨⟨b1, b2⟩, b3, ⟨b4, b5⟩, ⟨b6, b7⟩, ⟨b8, b9⟩, ⟨b10, b11⟩⟩ := certOk_iff hc
  obtain ⟨k0, k1⟩ := inR_true.1 hk
  rw [hc] at HS
  rw [HR.out]
  obtain ⟨ser, owner, iss, from_, to_, ca, depth, mark⟩ := c
  dsimp only at *
  obtain ⟨kn, rfl⟩ := Int.eq_ofNat_of_zero_le k0
  obtain ⟨sn, rfl⟩ := Int.eq_ofNat_of_zero_le (show 0 ≤ ser by omega)
  obtain ⟨isn, rfl⟩ := Int.eq_ofNat_of_zero_le b4
  obtain ⟨fn, rfl⟩ := Int.eq_ofNat_of_zero_le b6
  obtain ⟨tn, rfl⟩ := Int.eq_ofNat_of_zero_le b8
  obtain ⟨dn, rfl⟩ := Int.eq_ofNat_of_zero_le b10
  have hn : certNums ⟨sn, owner, isn, fn, tn, ca, dn, mark⟩ kn = [kn, sn, isn, fn, tn] := rfl
  have HM : Hid (markL ⟨sn, owner, isn, fn, tn, ca, dn, mark⟩ kn = (([kn, sn, isn, fn, tn] : List Nat).flatMap wideL ++ [UInt8.ofNat (2 * dn + (if ca = true then 1 else 0))]) ++ owner.data.toList) := rfl
  generalize markL ⟨sn, owner, isn, fn, tn, ca, dn, mark⟩ kn = ml at *
  have hns : ∀ x ∈ ([kn, sn, isn, fn, tn] : List Nat), x ≤ 1099511627776 := by intro x hx; simp at hx; omega
  go_enter Tryz.func26, Tryz.ntmps26
  go_wp2_with (first | (go_at_call 21; refine (HS.out _).mono ?_; rintro e w1 ⟨rfl, hb1⟩; replace H := Hp.step (by repeat (first | (with_reducible exact H) | (with_reducible apply Hp.alloc) | (with_reducible apply Hp.set) | (with_reducible apply Hp.drew) | (with_reducible apply Hp.drewN) | (with_reducible apply Hp.bytesW) | (with_reducible exact Upd.here) | (with_reducible exact Upd.hereR) | (with_reducible apply Upd.there) | (with_reducible apply Sz.alloc) | (with_reducible apply Sz.set) | (with_reducible apply Sz.drew) | (with_reducible apply Sz.drewN) | (with_reducible apply Sz.bytesW) | (with_reducible assumption) | (with_reducible exact Sz.base _))) hb1; (try simp only [List.set_cons_zero, List.set_cons_succ, List.cons_append, List.nil_append] at H); have F := H.facts; simp only [Facts, NeF, box, row, reg, cellsF, rByte, ne_eq, true_and, and_true, Nat.reduceAdd, Nat.zero_add] at F) | (go_at_call 22; refine (l04Key_any _ _).mono ?_; rintro e w' ⟨rfl, rfl⟩))
  have H1 := Hp.boxRow (L := [box (w1.heap.size + 1) 5 [], box w1.heap.size 3 [.int .i64 kn, .int .i64 sn, .int .i64 isn, .int .i64 fn, .int .i64 tn], box w.heap.size 30 [.int .i64 sn, .string owner, .int .i64 isn, .int .i64 fn, .int .i64 tn, .bool ca, .int .i64 dn, .int .i64 mark]]) (w := (w1.alloc (.cells #[.int .i64 kn, .int .i64 sn, .int .i64 isn, .int .i64 fn, .int .i64 tn] 3)).alloc (.cells #[] 5)) (by repeat (first | (with_reducible exact H) | (with_reducible apply Hp.alloc) | (with_reducible apply Hp.set) | (with_reducible apply Hp.drew) | (with_reducible apply Hp.drewN) | (with_reducible apply Hp.bytesW) | (with_reducible exact Upd.here) | (with_reducible exact Upd.hereR) | (with_reducible apply Upd.there) | (with_reducible apply Sz.alloc) | (with_reducible apply Sz.set) | (with_reducible apply Sz.drew) | (with_reducible apply Sz.drewN) | (with_reducible apply Sz.bytesW) | (with_reducible assumption) | (with_reducible exact Sz.base _))) 0 1 0 0 rfl rfl (Nat.le_refl _) (Nat.zero_le _)
  have HH1 : Hid (Hp w ((w1.alloc (.cells #[.int .i64 kn, .int .i64 sn, .int .i64 isn, .int .i64 fn, .int .i64 tn] 3)).alloc (.cells #[] 5)) [rByte (some ⟨w1.heap.size + 1, 0, none⟩) 0 [], box w1.heap.size 3 (([kn, sn, isn, fn, tn] : List Nat).map (fun x : Nat => Value.int .i64 x)), box w.heap.size 30 [.int .i64 sn, .string owner, .int .i64 isn, .int .i64 fn, .int .i64 tn, .bool ca, .int .i64 dn, .int .i64 mark]]) := H1
  have hl5 : ([kn, sn, isn, fn, tn] : List Nat).length = 5 := rfl
  clear hn F H1 H
  generalize hns2 : ([kn, sn, isn, fn, tn] : List Nat) = ns at *
  clear hns2
  generalize w1.heap.size = N at *
  go_loopw [6, 7] (fun v i wr => ∃ x : Nat, x ≤ 5 ∧ i = .int .i64 x ∧ ∃ A' c', v = .slice A' ((ns.take x).flatMap wideL).length c' ∧ Hid (Hp w wr [rByte A' c' ((ns.take x).flatMap wideL), box N 3 (ns.map (fun x : Nat => Value.int .i64 x)), box w.heap.size 30 [.int .i64 sn, .string owner, .int .i64 isn, .int .i64 fn, .int .i64 tn, .bool ca, .int .i64 dn, .int .i64 mark]])) (fun _ i _ => 5 - (intOf i).toNat)
  case atStart => exact ⟨0, by omega, rfl, some ⟨N + 1, 0, none⟩, 0, rfl, HH1⟩
  case round =>
    obtain ⟨x, hx, rfl, A', c', rfl, HP⟩ := hrel
    have H := HP.out
    by_cases hlt : x < 5
    · have hxl : x < ns.length := by omega
      have hcl := (H.bx 1 rfl).cell x
      rw [List.getElem?_toArray, List.getElem?_map, List.getElem?_eq_getElem hxl] at hcl
      simp only [Option.map_some] at hcl
      have hsz := hns _ (List.getElem_mem hxl)
      have HT := Lib.hid (flat_take hxl)
      have hl := flat_wide (ns.take x)
      have hl2 : ((ns.take x).flatMap wideL).length ≤ 100 := by rw [hl, List.length_take]; omega
      have HL2 := Lib.hid hl2
      clear hl hl2
      generalize ns[x] = y at *
      generalize (ns.take x).flatMap wideL = ls at *
      have hx1 : (x : Int) < 5 := by omega
      have hx0 : (0 : Int) ≤ (x : Int) := by omega
      go_wp2_with fail
      refine (specPutWide_hp y _ hsz).mono ?_
      rintro e w2 ⟨A2, c2, rfl, h2⟩
      replace H := Hp.call (by repeat (first | (with_reducible exact H) | (with_reducible apply Hp.alloc) | (with_reducible apply Hp.set) | (with_reducible apply Hp.drew) | (with_reducible apply Hp.drewN) | (with_reducible apply Hp.bytesW) | (with_reducible exact Upd.here) | (with_reducible exact Upd.hereR) | (with_reducible apply Upd.there) | (with_reducible apply Sz.alloc) | (with_reducible apply Sz.set) | (with_reducible apply Sz.drew) | (with_reducible apply Sz.drewN) | (with_reducible apply Sz.bytesW) | (with_reducible assumption) | (with_reducible exact Sz.base _))) h2; (try simp only [List.set_cons_zero, List.set_cons_succ, List.cons_append, List.nil_append] at H); clear h2
      go_wp2_with fail
      have HW8 := Lib.hid (wideL_len y)
      refine (l01Join_hp _ _ ls _ _ (wideL y) _ (Hp.rdM (by repeat (first | (with_reducible exact H) | (with_reducible apply Hp.alloc) | (with_reducible apply Hp.set) | (with_reducible apply Hp.drew) | (with_reducible apply Hp.drewN) | (with_reducible apply Hp.bytesW) | (with_reducible exact Upd.here) | (with_reducible exact Upd.hereR) | (with_reducible apply Upd.there) | (with_reducible apply Sz.alloc) | (with_reducible apply Sz.set) | (with_reducible apply Sz.drew) | (with_reducible apply Sz.drewN) | (with_reducible apply Sz.bytesW) | (with_reducible assumption) | (with_reducible exact Sz.base _))) (by repeat (first | (with_reducible exact List.mem_cons_self) | (with_reducible apply List.mem_cons_of_mem)))) (Hp.rdM (by repeat (first | (with_reducible exact H) | (with_reducible apply Hp.alloc) | (with_reducible apply Hp.set) | (with_reducible apply Hp.drew) | (with_reducible apply Hp.drewN) | (with_reducible apply Hp.bytesW) | (with_reducible exact Upd.here) | (with_reducible exact Upd.hereR) | (with_reducible apply Upd.there) | (with_reducible apply Sz.alloc) | (with_reducible apply Sz.set) | (with_reducible apply Sz.drew) | (with_reducible apply Sz.drewN) | (with_reducible apply Sz.bytesW) | (with_reducible assumption) | (with_reducible exact Sz.base _))) (by repeat (first | (with_reducible exact List.mem_cons_self) | (with_reducible apply List.mem_cons_of_mem)))) (by have := HL2.out; omega) (by have := HW8.out; omega)).mono ?_
      rintro e w3 ⟨A3, c3, rfl, h3⟩
      replace H := Hp.call (by repeat (first | (with_reducible exact H) | (with_reducible apply Hp.alloc) | (with_reducible apply Hp.set) | (with_reducible apply Hp.drew) | (with_reducible apply Hp.drewN) | (with_reducible apply Hp.bytesW) | (with_reducible exact Upd.here) | (with_reducible exact Upd.hereR) | (with_reducible apply Upd.there) | (with_reducible apply Sz.alloc) | (with_reducible apply Sz.set) | (with_reducible apply Sz.drew) | (with_reducible apply Sz.drewN) | (with_reducible apply Sz.bytesW) | (with_reducible assumption) | (with_reducible exact Sz.base _))) h3; (try simp only [List.set_cons_zero, List.set_cons_succ, List.cons_append, List.nil_append] at H); clear h3
      go_wp2_with fail
      go_roundw
      case rel => exact ⟨x + 1, by omega, by go_num, A3, c3, by rw [HT.out]; simp, by rw [HT.out]; exact Lib.hid (by refine Hp.sel (by repeat (first | (with_reducible exact H) | (with_reducible apply Hp.alloc) | (with_reducible apply Hp.set) | (with_reducible apply Hp.drew) | (with_reducible apply Hp.drewN) | (with_reducible apply Hp.bytesW) | (with_reducible exact Upd.here) | (with_reducible exact Upd.hereR) | (with_reducible apply Upd.there) | (with_reducible apply Sz.alloc) | (with_reducible apply Sz.set) | (with_reducible apply Sz.drew) | (with_reducible apply Sz.drewN) | (with_reducible apply Sz.bytesW) | (with_reducible assumption) | (with_reducible exact Sz.base _))) ?_; (try simp only [List.set_cons_zero, List.set_cons_succ]); exact (by repeat (first | (with_reducible exact Sel.nil) | (with_reducible apply Sel.cons) | (with_reducible exact Del.here) | (with_reducible apply Del.there))))⟩
      case measure => simp [intOf]; omega
    · obtain rfl : x = 5 := by omega
      have e5 : ns.take 5 = ns := List.take_of_length_le (by omega)
      rw [e5] at H ⊢
      have hl := flat_wide ns
      rw [hl5] at hl
      generalize ns.flatMap wideL = ls at *
      have F := H.facts; simp only [Facts, NeF, box, row, reg, cellsF, rByte, ne_eq, true_and, and_true, Nat.reduceAdd, Nat.zero_add] at F
      cases ca with
      | true =>
        obtain ⟨fb, hfb⟩ : ∃ fb, fb = UInt8.ofNat (2 * dn + 1) := ⟨_, rfl⟩
        have hfn : (fb.toNat : Int) = 2 * (dn : Int) + 1 := by rw [hfb, UInt8.toNat_ofNat']; omega
        have e1 : (2 * (dn : Int) + 1) % 256 = (fb.toNat : Int) := by omega
        have e2 : IntKind.u8.wrap (2 * (dn : Int) + 1) = (fb.toNat : Int) := by rw [IntKind.wrap_u8]; omega
        have hl1 : ls.length + 1 ≤ maxLen := by unfold maxLen; omega
        have hcv := fun w => Go.Lib.run_convert_string_bytes (P := Tryz.prog) w 9 22 5 owner Tryz.underlying9 Tryz.underlying22 Tryz.underlying5
        have hl3 : ls.length + 1 ≤ 100 := by omega
        have HL := Lib.hid hl
        have HX : Hid (ls.flatMap encByte ++ [Value.int IntKind.u8 (IntKind.u8.wrap (2 * (dn : Int) + 1))] = (ls ++ [fb]).flatMap encByte) := by show _ = _; rw [e2]; simp [encByte]
        have HS2 := Lib.hid hs
        have HS3 := Lib.hid b3
        have HML : Hid (ml = (ls ++ [fb]) ++ owner.data.toList) := by show _ = _; rw [HM.out, hfb]; rfl
        have E1 := Lib.hid e1
        have hbs := fun w => Go.Lib.bytesWorld_size w 5 owner
        clear hfn e1 e2 hl hfb hs b3
        go_wp2_with fail
        go_region_law (first | (refine step_append_lies _ (by rfl) _ _ 22 (by rfl) w.heap.size 5 i0 _ 1 _ Tryz.underlying22 hi0 hz0 hz1 hz2 (by rfl) (by decide) (.slice A' ls.length c') ls.length _ (by rfl) (Hp.rowM (by repeat (first | (with_reducible exact H) | (with_reducible apply Hp.alloc) | (with_reducible apply Hp.set) | (with_reducible apply Hp.drew) | (with_reducible apply Hp.drewN) | (with_reducible apply Hp.bytesR) | (with_reducible apply Sz.alloc) | (with_reducible apply Sz.set) | (with_reducible apply Sz.drew) | (with_reducible apply Sz.drewN) | (with_reducible apply Sz.bytesW) | (with_reducible assumption) | (with_reducible exact Sz.base _))) (by repeat (first | (with_reducible exact List.mem_cons_self) | (with_reducible apply List.mem_cons_of_mem)))) ⟨wr.heap.size, 0, none⟩ 1 1 [.int .u8 _] (by rfl) (by rfl) (Hp.newsM (by repeat (first | (with_reducible exact H) | (with_reducible apply Hp.alloc) | (with_reducible apply Hp.set) | (with_reducible apply Hp.drew) | (with_reducible apply Hp.drewN) | (with_reducible apply Hp.bytesR) | (with_reducible apply Sz.alloc) | (with_reducible apply Sz.set) | (with_reducible apply Sz.drew) | (with_reducible apply Sz.drewN) | (with_reducible apply Sz.bytesW) | (with_reducible assumption) | (with_reducible exact Sz.base _))) (by repeat (first | (with_reducible exact List.mem_cons_self) | (with_reducible apply List.mem_cons_of_mem)))) (by intro x hx; simp at hx; subst hx; rfl) (by decide) hl1 (by omega) (Hp.b (by repeat (first | (with_reducible exact H) | (with_reducible apply Hp.alloc) | (with_reducible apply Hp.set) | (with_reducible apply Hp.drew) | (with_reducible apply Hp.drewN) | (with_reducible apply Hp.bytesR) | (with_reducible apply Sz.alloc) | (with_reducible apply Sz.set) | (with_reducible apply Sz.drew) | (with_reducible apply Sz.drewN) | (with_reducible apply Sz.bytesW) | (with_reducible assumption) | (with_reducible exact Sz.base _)))).size _ rfl ?_; intro g cap wa hown hgrow hat hlt1; replace H := Hp.appM (by repeat (first | (with_reducible exact H) | (with_reducible apply Hp.alloc) | (with_reducible apply Hp.set) | (with_reducible apply Hp.drew) | (with_reducible apply Hp.drewN) | (with_reducible apply Hp.bytesR) | (with_reducible apply Sz.alloc) | (with_reducible apply Sz.set) | (with_reducible apply Sz.drew) | (with_reducible apply Sz.drewN) | (with_reducible apply Sz.bytesW) | (with_reducible assumption) | (with_reducible exact Sz.base _))) (by repeat (first | (with_reducible exact Rep.here) | (with_reducible apply Rep.there))) hown hgrow hat rfl hlt1; (try simp only [List.set_cons_zero, List.set_cons_succ, List.cons_append, List.nil_append] at H); rw [HX.out] at H; clear F; have F := H.facts; simp only [Facts, NeF, box, row, reg, cellsF, rByte, ne_eq, true_and, and_true, Nat.reduceAdd, Nat.zero_add] at F) | (refine step_append_lies _ (by rfl) _ _ 22 (by rfl) w.heap.size 5 i0 _ 1 _ Tryz.underlying22 hi0 hz0 hz1 hz2 (by rfl) (by decide) (.slice A' ls.length c') ls.length _ (by rfl) (Hp.rowM (by repeat (first | (with_reducible exact H) | (with_reducible apply Hp.alloc) | (with_reducible apply Hp.set) | (with_reducible apply Hp.drew) | (with_reducible apply Hp.drewN) | (with_reducible apply Hp.bytesR) | (with_reducible apply Sz.alloc) | (with_reducible apply Sz.set) | (with_reducible apply Sz.drew) | (with_reducible apply Sz.drewN) | (with_reducible apply Sz.bytesW) | (with_reducible assumption) | (with_reducible exact Sz.base _))) (by repeat (first | (with_reducible exact List.mem_cons_self) | (with_reducible apply List.mem_cons_of_mem)))) ⟨wr.heap.size + 1, 0, none⟩ 1 1 [.int .u8 _] (by rfl) (by rfl) (Hp.newsM (by repeat (first | (with_reducible exact H) | (with_reducible apply Hp.alloc) | (with_reducible apply Hp.set) | (with_reducible apply Hp.drew) | (with_reducible apply Hp.drewN) | (with_reducible apply Hp.bytesR) | (with_reducible apply Sz.alloc) | (with_reducible apply Sz.set) | (with_reducible apply Sz.drew) | (with_reducible apply Sz.drewN) | (with_reducible apply Sz.bytesW) | (with_reducible assumption) | (with_reducible exact Sz.base _))) (by repeat (first | (with_reducible exact List.mem_cons_self) | (with_reducible apply List.mem_cons_of_mem)))) (by intro x hx; simp at hx; subst hx; rfl) (by decide) hl1 (by omega) (Hp.b (by repeat (first | (with_reducible exact H) | (with_reducible apply Hp.alloc) | (with_reducible apply Hp.set) | (with_reducible apply Hp.drew) | (with_reducible apply Hp.drewN) | (with_reducible apply Hp.bytesR) | (with_reducible apply Sz.alloc) | (with_reducible apply Sz.set) | (with_reducible apply Sz.drew) | (with_reducible apply Sz.drewN) | (with_reducible apply Sz.bytesW) | (with_reducible assumption) | (with_reducible exact Sz.base _)))).size _ rfl ?_; intro g cap wa hown hgrow hat hlt1; replace H := Hp.appM (by repeat (first | (with_reducible exact H) | (with_reducible apply Hp.alloc) | (with_reducible apply Hp.set) | (with_reducible apply Hp.drew) | (with_reducible apply Hp.drewN) | (with_reducible apply Hp.bytesR) | (with_reducible apply Sz.alloc) | (with_reducible apply Sz.set) | (with_reducible apply Sz.drew) | (with_reducible apply Sz.drewN) | (with_reducible apply Sz.bytesW) | (with_reducible assumption) | (with_reducible exact Sz.base _))) (by repeat (first | (with_reducible exact Rep.here) | (with_reducible apply Rep.there))) hown hgrow hat rfl hlt1; (try simp only [List.set_cons_zero, List.set_cons_succ, List.cons_append, List.nil_append] at H); rw [HX.out] at H; clear F; have F := H.facts; simp only [Facts, NeF, box, row, reg, cellsF, rByte, ne_eq, true_and, and_true, Nat.reduceAdd, Nat.zero_add] at F) | (go_simp; go_at_call 53; refine (l01Join_n _ _ _ (ls ++ [fb]) _ _ _ owner.data.toList _ (Hp.rdM (by repeat (first | (with_reducible exact H) | (with_reducible apply Hp.alloc) | (with_reducible apply Hp.set) | (with_reducible apply Hp.drew) | (with_reducible apply Hp.drewN) | (with_reducible apply Hp.bytesR) | (with_reducible apply Sz.alloc) | (with_reducible apply Sz.set) | (with_reducible apply Sz.drew) | (with_reducible apply Sz.drewN) | (with_reducible apply Sz.bytesW) | (with_reducible assumption) | (with_reducible exact Sz.base _))) (by repeat (first | (with_reducible exact List.mem_cons_self) | (with_reducible apply List.mem_cons_of_mem)))) (Hp.bytesRd (by repeat (first | (with_reducible exact H) | (with_reducible apply Hp.alloc) | (with_reducible apply Hp.set) | (with_reducible apply Hp.drew) | (with_reducible apply Hp.drewN) | (with_reducible apply Hp.bytesR) | (with_reducible apply Sz.alloc) | (with_reducible apply Sz.set) | (with_reducible apply Sz.drew) | (with_reducible apply Sz.drewN) | (with_reducible apply Sz.bytesW) | (with_reducible assumption) | (with_reducible exact Sz.base _))) (by repeat (first | (with_reducible exact List.mem_cons_self) | (with_reducible apply List.mem_cons_of_mem))) (grownCap_ge _ _ _ _) (grownCap_le_maxLen _ _ _ _ HS2.out)) (by simp) (by simp) (by simp; omega) (by have := HS3.out; simp; omega)).mono ?_; rintro e wj ⟨A3, c3, rfl, h3⟩; replace H := Hp.call (by repeat (first | (with_reducible exact H) | (with_reducible apply Hp.alloc) | (with_reducible apply Hp.set) | (with_reducible apply Hp.drew) | (with_reducible apply Hp.drewN) | (with_reducible apply Hp.bytesR) | (with_reducible apply Sz.alloc) | (with_reducible apply Sz.set) | (with_reducible apply Sz.drew) | (with_reducible apply Sz.drewN) | (with_reducible apply Sz.bytesW) | (with_reducible assumption) | (with_reducible exact Sz.base _))) h3; (try simp only [List.set_cons_zero, List.set_cons_succ, List.cons_append, List.nil_append] at H); clear h3 F; have F := H.facts; simp only [Facts, NeF, box, row, reg, cellsF, rByte, ne_eq, true_and, and_true, Nat.reduceAdd, Nat.zero_add] at F) | (go_simp; go_at_call 55; refine (specDigest_n _ _ _ ((ls ++ [fb]) ++ owner.data.toList) _ (Hp.rdL (by repeat (first | (with_reducible exact H) | (with_reducible apply Hp.alloc) | (with_reducible apply Hp.set) | (with_reducible apply Hp.drew) | (with_reducible apply Hp.drewN) | (with_reducible apply Hp.bytesR) | (with_reducible apply Sz.alloc) | (with_reducible apply Sz.set) | (with_reducible apply Sz.drew) | (with_reducible apply Sz.drewN) | (with_reducible apply Sz.bytesW) | (with_reducible assumption) | (with_reducible exact Sz.base _))) (by repeat (first | (with_reducible exact List.mem_cons_self) | (with_reducible apply List.mem_cons_of_mem))) (by simp)) (by simp)).mono ?_; rintro e wd ⟨rfl, rfl⟩))
        all_goals
          go_wp2_with fail
          refine bodyPost_ret (v := .int .i64 (dig ((ls ++ [fb]) ++ owner.data.toList))) (by simp [results, Tryz.results26, go_sem]) rfl ⟨by rw [HML.out], Hp.b (by repeat (first | (with_reducible exact H) | (with_reducible apply Hp.alloc) | (with_reducible apply Hp.set) | (with_reducible apply Hp.drew) | (with_reducible apply Hp.drewN) | (with_reducible apply Hp.bytesR) | (with_reducible apply Sz.alloc) | (with_reducible apply Sz.set) | (with_reducible apply Sz.drew) | (with_reducible apply Sz.drewN) | (with_reducible apply Sz.bytesW) | (with_reducible assumption) | (with_reducible exact Sz.base _)))⟩
      | false =>
        obtain ⟨fb, hfb⟩ : ∃ fb, fb = UInt8.ofNat (2 * dn) := ⟨_, rfl⟩
        have hfn : (fb.toNat : Int) = 2 * (dn : Int) := by rw [hfb, UInt8.toNat_ofNat']; omega
        have e1 : (2 * (dn : Int)) % 256 = (fb.toNat : Int) := by omega
        have e2 : IntKind.u8.wrap (2 * (dn : Int)) = (fb.toNat : Int) := by rw [IntKind.wrap_u8]; omega
        have hl1 : ls.length + 1 ≤ maxLen := by unfold maxLen; omega
        have hcv := fun w => Go.Lib.run_convert_string_bytes (P := Tryz.prog) w 9 22 5 owner Tryz.underlying9 Tryz.underlying22 Tryz.underlying5
        have hl3 : ls.length + 1 ≤ 100 := by omega
        have HL := Lib.hid hl
        have HX : Hid (ls.flatMap encByte ++ [Value.int IntKind.u8 (IntKind.u8.wrap (2 * (dn : Int)))] = (ls ++ [fb]).flatMap encByte) := by show _ = _; rw [e2]; simp [encByte]
        have HS2 := Lib.hid hs
        have HS3 := Lib.hid b3
        have HML : Hid (ml = (ls ++ [fb]) ++ owner.data.toList) := by show _ = _; rw [HM.out, hfb]; rfl
        have E1 := Lib.hid e1
        have hbs := fun w => Go.Lib.bytesWorld_size w 5 owner
        clear hfn e1 e2 hl hfb hs b3
        go_wp2_with fail
        go_region_law (first | (refine step_append_lies _ (by rfl) _ _ 22 (by rfl) w.heap.size 5 i0 _ 1 _ Tryz.underlying22 hi0 hz0 hz1 hz2 (by rfl) (by decide) (.slice A' ls.length c') ls.length _ (by rfl) (Hp.rowM (by repeat (first | (with_reducible exact H) | (with_reducible apply Hp.alloc) | (with_reducible apply Hp.set) | (with_reducible apply Hp.drew) | (with_reducible apply Hp.drewN) | (with_reducible apply Hp.bytesR) | (with_reducible apply Sz.alloc) | (with_reducible apply Sz.set) | (with_reducible apply Sz.drew) | (with_reducible apply Sz.drewN) | (with_reducible apply Sz.bytesW) | (with_reducible assumption) | (with_reducible exact Sz.base _))) (by repeat (first | (with_reducible exact List.mem_cons_self) | (with_reducible apply List.mem_cons_of_mem)))) ⟨wr.heap.size, 0, none⟩ 1 1 [.int .u8 _] (by rfl) (by rfl) (Hp.newsM (by repeat (first | (with_reducible exact H) | (with_reducible apply Hp.alloc) | (with_reducible apply Hp.set) | (with_reducible apply Hp.drew) | (with_reducible apply Hp.drewN) | (with_reducible apply Hp.bytesR) | (with_reducible apply Sz.alloc) | (with_reducible apply Sz.set) | (with_reducible apply Sz.drew) | (with_reducible apply Sz.drewN) | (with_reducible apply Sz.bytesW) | (with_reducible assumption) | (with_reducible exact Sz.base _))) (by repeat (first | (with_reducible exact List.mem_cons_self) | (with_reducible apply List.mem_cons_of_mem)))) (by intro x hx; simp at hx; subst hx; rfl) (by decide) hl1 (by omega) (Hp.b (by repeat (first | (with_reducible exact H) | (with_reducible apply Hp.alloc) | (with_reducible apply Hp.set) | (with_reducible apply Hp.drew) | (with_reducible apply Hp.drewN) | (with_reducible apply Hp.bytesR) | (with_reducible apply Sz.alloc) | (with_reducible apply Sz.set) | (with_reducible apply Sz.drew) | (with_reducible apply Sz.drewN) | (with_reducible apply Sz.bytesW) | (with_reducible assumption) | (with_reducible exact Sz.base _)))).size _ rfl ?_; intro g cap wa hown hgrow hat hlt1; replace H := Hp.appM (by repeat (first | (with_reducible exact H) | (with_reducible apply Hp.alloc) | (with_reducible apply Hp.set) | (with_reducible apply Hp.drew) | (with_reducible apply Hp.drewN) | (with_reducible apply Hp.bytesR) | (with_reducible apply Sz.alloc) | (with_reducible apply Sz.set) | (with_reducible apply Sz.drew) | (with_reducible apply Sz.drewN) | (with_reducible apply Sz.bytesW) | (with_reducible assumption) | (with_reducible exact Sz.base _))) (by repeat (first | (with_reducible exact Rep.here) | (with_reducible apply Rep.there))) hown hgrow hat rfl hlt1; (try simp only [List.set_cons_zero, List.set_cons_succ, List.cons_append, List.nil_append] at H); rw [HX.out] at H; clear F; have F := H.facts; simp only [Facts, NeF, box, row, reg, cellsF, rByte, ne_eq, true_and, and_true, Nat.reduceAdd, Nat.zero_add] at F) | (refine step_append_lies _ (by rfl) _ _ 22 (by rfl) w.heap.size 5 i0 _ 1 _ Tryz.underlying22 hi0 hz0 hz1 hz2 (by rfl) (by decide) (.slice A' ls.length c') ls.length _ (by rfl) (Hp.rowM (by repeat (first | (with_reducible exact H) | (with_reducible apply Hp.alloc) | (with_reducible apply Hp.set) | (with_reducible apply Hp.drew) | (with_reducible apply Hp.drewN) | (with_reducible apply Hp.bytesR) | (with_reducible apply Sz.alloc) | (with_reducible apply Sz.set) | (with_reducible apply Sz.drew) | (with_reducible apply Sz.drewN) | (with_reducible apply Sz.bytesW) | (with_reducible assumption) | (with_reducible exact Sz.base _))) (by repeat (first | (with_reducible exact List.mem_cons_self) | (with_reducible apply List.mem_cons_of_mem)))) ⟨wr.heap.size + 1, 0, none⟩ 1 1 [.int .u8 _] (by rfl) (by rfl) (Hp.newsM (by repeat (first | (with_reducible exact H) | (with_reducible apply Hp.alloc) | (with_reducible apply Hp.set) | (with_reducible apply Hp.drew) | (with_reducible apply Hp.drewN) | (with_reducible apply Hp.bytesR) | (with_reducible apply Sz.alloc) | (with_reducible apply Sz.set) | (with_reducible apply Sz.drew) | (with_reducible apply Sz.drewN) | (with_reducible apply Sz.bytesW) | (with_reducible assumption) | (with_reducible exact Sz.base _))) (by repeat (first | (with_reducible exact List.mem_cons_self) | (with_reducible apply List.mem_cons_of_mem)))) (by intro x hx; simp at hx; subst hx; rfl) (by decide) hl1 (by omega) (Hp.b (by repeat (first | (with_reducible exact H) | (with_reducible apply Hp.alloc) | (with_reducible apply Hp.set) | (with_reducible apply Hp.drew) | (with_reducible apply Hp.drewN) | (with_reducible apply Hp.bytesR) | (with_reducible apply Sz.alloc) | (with_reducible apply Sz.set) | (with_reducible apply Sz.drew) | (with_reducible apply Sz.drewN) | (with_reducible apply Sz.bytesW) | (with_reducible assumption) | (with_reducible exact Sz.base _)))).size _ rfl ?_; intro g cap wa hown hgrow hat hlt1; replace H := Hp.appM (by repeat (first | (with_reducible exact H) | (with_reducible apply Hp.alloc) | (with_reducible apply Hp.set) | (with_reducible apply Hp.drew) | (with_reducible apply Hp.drewN) | (with_reducible apply Hp.bytesR) | (with_reducible apply Sz.alloc) | (with_reducible apply Sz.set) | (with_reducible apply Sz.drew) | (with_reducible apply Sz.drewN) | (with_reducible apply Sz.bytesW) | (with_reducible assumption) | (with_reducible exact Sz.base _))) (by repeat (first | (with_reducible exact Rep.here) | (with_reducible apply Rep.there))) hown hgrow hat rfl hlt1; (try simp only [List.set_cons_zero, List.set_cons_succ, List.cons_append, List.nil_append] at H); rw [HX.out] at H; clear F; have F := H.facts; simp only [Facts, NeF, box, row, reg, cellsF, rByte, ne_eq, true_and, and_true, Nat.reduceAdd, Nat.zero_add] at F) | (go_simp; go_at_call 53; refine (l01Join_n _ _ _ (ls ++ [fb]) _ _ _ owner.data.toList _ (Hp.rdM (by repeat (first | (with_reducible exact H) | (with_reducible apply Hp.alloc) | (with_reducible apply Hp.set) | (with_reducible apply Hp.drew) | (with_reducible apply Hp.drewN) | (with_reducible apply Hp.bytesR) | (with_reducible apply Sz.alloc) | (with_reducible apply Sz.set) | (with_reducible apply Sz.drew) | (with_reducible apply Sz.drewN) | (with_reducible apply Sz.bytesW) | (with_reducible assumption) | (with_reducible exact Sz.base _))) (by repeat (first | (with_reducible exact List.mem_cons_self) | (with_reducible apply List.mem_cons_of_mem)))) (Hp.bytesRd (by repeat (first | (with_reducible exact H) | (with_reducible apply Hp.alloc) | (with_reducible apply Hp.set) | (with_reducible apply Hp.drew) | (with_reducible apply Hp.drewN) | (with_reducible apply Hp.bytesR) | (with_reducible apply Sz.alloc) | (with_reducible apply Sz.set) | (with_reducible apply Sz.drew) | (with_reducible apply Sz.drewN) | (with_reducible apply Sz.bytesW) | (with_reducible assumption) | (with_reducible exact Sz.base _))) (by repeat (first | (with_reducible exact List.mem_cons_self) | (with_reducible apply List.mem_cons_of_mem))) (grownCap_ge _ _ _ _) (grownCap_le_maxLen _ _ _ _ HS2.out)) (by simp) (by simp) (by simp; omega) (by have := HS3.out; simp; omega)).mono ?_; rintro e wj ⟨A3, c3, rfl, h3⟩; replace H := Hp.call (by repeat (first | (with_reducible exact H) | (with_reducible apply Hp.alloc) | (with_reducible apply Hp.set) | (with_reducible apply Hp.drew) | (with_reducible apply Hp.drewN) | (with_reducible apply Hp.bytesR) | (with_reducible apply Sz.alloc) | (with_reducible apply Sz.set) | (with_reducible apply Sz.drew) | (with_reducible apply Sz.drewN) | (with_reducible apply Sz.bytesW) | (with_reducible assumption) | (with_reducible exact Sz.base _))) h3; (try simp only [List.set_cons_zero, List.set_cons_succ, List.cons_append, List.nil_append] at H); clear h3 F; have F := H.facts; simp only [Facts, NeF, box, row, reg, cellsF, rByte, ne_eq, true_and, and_true, Nat.reduceAdd, Nat.zero_add] at F) | (go_simp; go_at_call 55; refine (specDigest_n _ _ _ ((ls ++ [fb]) ++ owner.data.toList) _ (Hp.rdL (by repeat (first | (with_reducible exact H) | (with_reducible apply Hp.alloc) | (with_reducible apply Hp.set) | (with_reducible apply Hp.drew) | (with_reducible apply Hp.drewN) | (with_reducible apply Hp.bytesR) | (with_reducible apply Sz.alloc) | (with_reducible apply Sz.set) | (with_reducible apply Sz.drew) | (with_reducible apply Sz.drewN) | (with_reducible apply Sz.bytesW) | (with_reducible assumption) | (with_reducible exact Sz.base _))) (by repeat (first | (with_reducible exact List.mem_cons_self) | (with_reducible apply List.mem_cons_of_mem))) (by simp)) (by simp)).mono ?_; rintro e wd ⟨rfl, rfl⟩))
        all_goals
          go_wp2_with fail
          refine bodyPost_ret (v := .int .i64 (dig ((ls ++ [fb]) ++ owner.data.toList))) (by simp [results, Tryz.results26, go_sem]) rfl ⟨by rw [HML.out], Hp.b (by repeat (first | (with_reducible exact H) | (with_reducible apply Hp.alloc) | (with_reducible apply Hp.set) | (with_reducible apply Hp.drew) | (with_reducible apply Hp.drewN) | (with_reducible apply Hp.bytesR) | (with_reducible apply Sz.alloc) | (with_reducible apply Sz.set) | (with_reducible apply Sz.drew) | (with_reducible apply Sz.drewN) | (with_reducible apply Sz.bytesW) | (with_reducible assumption) | (with_reducible exact Sz.base _)))⟩
end Go.Proofs.YtlblkpcjknjijaaGreatDoor

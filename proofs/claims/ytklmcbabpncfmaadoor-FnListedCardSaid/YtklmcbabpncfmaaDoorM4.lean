/- A text put into an ascending list, once (the reference's). No condition. -/
import Derived.Test.YtklmcbabpncfmaaDoorEnStr
import Derived.Test.YtklmcbabpncfmaaDoorM5
import Derived.Test.YtklmcbabpncfmaaDoorHpB
import Derived.Test.YtklmcbabpncfmaaDoorKvC
import Derived.Test.YtklmcbabpncfmaaDoorKvO
import Derived.Test.YtklmcbabpncfmaaDoorM3
import Derived.Test.YtklmcbabpncfmaaDoorM6
import Derived.Test.YtklmcbabpncfmaaDoorKvS0
import Derived.Deep.DeepCutAuto
import Derived.Deep.RegionHeld3
import Derived.Deep.RegionLaw
namespace Go.Proofs.YtklmcbabpncfmaaDoor
open Go.RowKit
set_option linter.unusedVariables false
set_option linter.unusedSimpArgs false
theorem Hp.boxNilS {w0 w : World} {L : List Ent} {g : Nat} (H : Hp w0 w (box g 9 [] :: L)) : Hp w0 w (rStr (some ⟨g, 0, none⟩) 0 [] :: L) := Hp.boxRow H 0 1 0 0 rfl rfl (Nat.le_refl _) (Nat.zero_le _)
def putT : List ByteArray → ByteArray → List ByteArray
  | [], x => [x]
  | y :: l, x => if ltS y x = true then y :: putT l x else if ltS x y = true then x :: y :: l else y :: l
theorem putT_len : ∀ (l : List ByteArray) (x : ByteArray), (putT l x).length ≤ l.length + 1
  | [], x => Nat.le_refl _
  | y :: l, x => by
    rw [putT]
    split
    · have := putT_len l x; simp; omega
    · split <;> simp
theorem putT_all {p : ByteArray → Prop} : ∀ {l : List ByteArray} {x : ByteArray}, (∀ y ∈ l, p y) → p x → ∀ y ∈ putT l x, p y
  | [], x, _, hx, y, hy => by rw [putT] at hy; rw [List.mem_singleton.1 hy]; exact hx
  | z :: l, x, h, hx, y, hy => by
    rw [putT] at hy
    have hz := h z List.mem_cons_self
    have hl : ∀ y ∈ l, p y := fun y hy => h y (List.mem_cons_of_mem _ hy)
    split at hy
    · rcases List.mem_cons.1 hy with rfl | hy
      · exact hz
      · exact putT_all hl hx y hy
    · split at hy
      · rcases List.mem_cons.1 hy with rfl | hy
        · exact hx
        · exact h y hy
      · exact h y hy
/-- What is still to be put. -/
def restT (pb : Bool) (l : List ByteArray) (x : ByteArray) : List ByteArray := if pb = true then l else putT l x
set_option maxHeartbeats 16000000 in
set_option maxRecDepth 10000 in
theorem l10Put_hp (A : Option Addr) (n c : Nat) (us : List ByteArray) (x : ByteArray) (w : World) (hr : Rd w w.heap.size 1 A n c (us.flatMap encStr)) (hn : us.length = n) (hb20 : n ≤ 1048576) :
    Calls Tryd.prog 52 #[.slice A n c, .string x] w fun e w' => ∃ A' c', e = .returned (.slice A' (putT us x).length c') ∧ Hp w w' [rStr A' c' (putT us x)] := by
  obtain ⟨i0, hi0, hz0, hz1, hz2⟩ := info_parts Tryd.infoStr
  have hc := hr.2.1
  have hm := hr.2.2.1
  unfold maxLen at hm
  have H := Hp.nil w
  go_enter Tryd.func52, Tryd.ntmps52
  go_wp2_with fail
  have HH := Lib.hid H; clear H
  go_loopw [7, 6, 5] (fun i p s wr => ∃ k : Nat, k ≤ n ∧ i = .int .i64 k ∧ ∃ pb, p = .bool pb ∧ ∃ (A' : Option Addr) (c' : Nat) (ts : List ByteArray), s = .slice A' ts.length c' ∧ Hid (putT us x = ts ++ restT pb (us.drop k) x) ∧ Hid (ts.length ≤ k + pb.toNat) ∧ Hid (Hp w wr [rStr A' c' ts])) (fun i _ _ _ => n - (intOf i).toNat)
  case atStart =>
    have H := HH.out
    exact ⟨0, Nat.zero_le _, rfl, false, rfl, some ⟨w.heap.size, 0, none⟩, 0, [], rfl, by show _ = _; rfl, Nat.zero_le _, Lib.hid (Hp.into (by repeat (first | (with_reducible exact H) | (with_reducible apply Hp.alloc) | (with_reducible apply Hp.set) | (with_reducible apply Hp.drew) | (with_reducible apply Hp.drewN) | (with_reducible apply Hp.bytesW) | (with_reducible exact Upd.here) | (with_reducible exact Upd.hereR) | (with_reducible apply Upd.there) | (with_reducible apply Sz.alloc) | (with_reducible apply Sz.set) | (with_reducible apply Sz.drew) | (with_reducible apply Sz.drewN) | (with_reducible apply Sz.bytesW) | (with_reducible assumption) | (with_reducible exact Sz.base _))) Hp.boxNilS)⟩
  case round =>
    clear HH
    obtain ⟨k, hk, rfl, pb, rfl, A', c', ts, rfl, HE, HTL, HP⟩ := hrel
    have H := HP.out
    have F := H.facts; simp only [Facts, NeF, box, row, reg, cellsF, rStr, ne_eq, true_and, and_true, Nat.reduceAdd, Nat.zero_add] at F
    have htl : ts.length ≤ k + 1 := Nat.le_trans HTL.out (Nat.add_le_add_left (by cases pb <;> decide) k)
    have hl : ts.length + 1 ≤ maxLen := by unfold maxLen; omega
    have hl2 : ts.length ≤ 1048577 := by omega
    by_cases hlt : k < n
    · obtain ⟨b, off, rfl, hb, hcell⟩ := hr.elem encStr_len hn hlt
      have c0 := H.b.cell (p := ⟨b, off + k * 1 + 0, none⟩) hb |>.trans (hcell 0 _ rfl)
      simp only [Nat.add_zero, Nat.mul_one] at c0
      have HCK : Hid (∀ W : World, Below w.heap.size w W → W.cell? ⟨b, off + k, none⟩ = some (.string (us[k]'(by omega)))) := fun W h => by
        have := h.cell (p := ⟨b, off + k * 1 + 0, none⟩) hb |>.trans (hcell 0 _ rfl)
        simpa only [Nat.add_zero, Nat.mul_one] using this
      have hk1 : (k : Int) < (n : Int) := by omega
      have hk0 : (0 : Int) ≤ (k : Int) := by omega
      have HK1 : Hid (k + 1 ≤ n ∧ n - (k + 1) < n - k) := ⟨by omega, by omega⟩
      have hdr : us.drop k = (us[k]'(by omega)) :: us.drop (k + 1) := List.drop_eq_getElem_cons (by omega)
      rw [hdr] at HE
      have hbw : b < wr.heap.size := Nat.lt_of_lt_of_le hb H.b.size
      have hbe : ¬ b = wr.heap.size ∧ ¬ wr.heap.size = b := by omega
      clear hcell hdr htl
      generalize (us[k]'(by omega)) = y at *
      cases pb with
      | true =>
        have HN : Hid (putT us x = (ts ++ [y]) ++ restT true (us.drop (k + 1)) x) := by show _ = _; rw [HE.out]; simp [restT]
        go_wp2_with (at_builtin; refine wpList_append_lies _ (by rfl) _ _ 40 (by rfl) w.heap.size 9 i0 _ 1 _ Tryd.underlying40 hi0 hz0 hz1 hz2 (by rfl) (by decide) (.slice A' (ts.length) c') (ts.length) _ (by rfl) (Hp.rowM (by repeat (first | (with_reducible exact H) | (with_reducible apply Hp.alloc) | (with_reducible apply Hp.set) | (with_reducible apply Hp.drew) | (with_reducible apply Hp.drewN) | (with_reducible apply Hp.bytesW) | (with_reducible exact Upd.here) | (with_reducible exact Upd.hereR) | (with_reducible apply Upd.there) | (with_reducible apply Sz.alloc) | (with_reducible apply Sz.set) | (with_reducible apply Sz.drew) | (with_reducible apply Sz.drewN) | (with_reducible apply Sz.bytesW) | (with_reducible assumption) | (with_reducible exact Sz.base _))) (by repeat (first | (with_reducible exact List.mem_cons_self) | (with_reducible apply List.mem_cons_of_mem)))) ⟨wr.heap.size, 0, none⟩ 1 1 (encStr y) (by rfl) (by rfl) (Hp.news (by repeat (first | (with_reducible exact H) | (with_reducible apply Hp.alloc) | (with_reducible apply Hp.set) | (with_reducible apply Hp.drew) | (with_reducible apply Hp.drewN) | (with_reducible apply Hp.bytesW) | (with_reducible exact Upd.here) | (with_reducible exact Upd.hereR) | (with_reducible apply Upd.there) | (with_reducible apply Sz.alloc) | (with_reducible apply Sz.set) | (with_reducible apply Sz.drew) | (with_reducible apply Sz.drewN) | (with_reducible apply Sz.bytesW) | (with_reducible assumption) | (with_reducible exact Sz.base _))) 0 (by rfl)) (oneStr y) (by decide) hl (by omega) (Hp.b (by repeat (first | (with_reducible exact H) | (with_reducible apply Hp.alloc) | (with_reducible apply Hp.set) | (with_reducible apply Hp.drew) | (with_reducible apply Hp.drewN) | (with_reducible apply Hp.bytesW) | (with_reducible exact Upd.here) | (with_reducible exact Upd.hereR) | (with_reducible apply Upd.there) | (with_reducible apply Sz.alloc) | (with_reducible apply Sz.set) | (with_reducible apply Sz.drew) | (with_reducible apply Sz.drewN) | (with_reducible apply Sz.bytesW) | (with_reducible assumption) | (with_reducible exact Sz.base _)))).size _ rfl ?_; intro g cap wa hown hgrow hat hlt1; have H5 := Hp.appM (by repeat (first | (with_reducible exact H) | (with_reducible apply Hp.alloc) | (with_reducible apply Hp.set) | (with_reducible apply Hp.drew) | (with_reducible apply Hp.drewN) | (with_reducible apply Hp.bytesW) | (with_reducible exact Upd.here) | (with_reducible exact Upd.hereR) | (with_reducible apply Upd.there) | (with_reducible apply Sz.alloc) | (with_reducible apply Sz.set) | (with_reducible apply Sz.drew) | (with_reducible apply Sz.drewN) | (with_reducible apply Sz.bytesW) | (with_reducible assumption) | (with_reducible exact Sz.base _))) (by repeat (first | (with_reducible exact Rep.here) | (with_reducible apply Rep.there))) hown hgrow hat rfl hlt1; (try simp only [List.set_cons_zero, List.set_cons_succ, List.cons_append, List.nil_append] at H5); have FA := H5.facts; simp only [Facts, NeF, box, row, reg, cellsF, rStr, ne_eq, true_and, and_true, Nat.reduceAdd, Nat.zero_add] at FA)
        rw [rStr_snoc] at H5
        go_roundw
        case rel =>
          refine ⟨k + 1, HK1.out.1, by go_num, true, rfl, some ⟨g, 0, none⟩, cap, ts ++ [y], by (try rw [List.length_append]); rfl, HN, by show _ ≤ _; (try rw [List.length_append]); (try rw [List.length_append]); (try simp only [List.length_cons, List.length_nil, Bool.toNat_true, Bool.toNat_false]); have := HTL.out; (try simp only [Bool.toNat_true, Bool.toNat_false] at this); omega, Lib.hid (Hp.sel (by repeat (first | (with_reducible exact H5) | (with_reducible apply Hp.alloc) | (with_reducible apply Hp.set) | (with_reducible apply Hp.drew) | (with_reducible apply Hp.drewN) | (with_reducible apply Hp.bytesW) | (with_reducible exact Upd.here) | (with_reducible exact Upd.hereR) | (with_reducible apply Upd.there) | (with_reducible apply Sz.alloc) | (with_reducible apply Sz.set) | (with_reducible apply Sz.drew) | (with_reducible apply Sz.drewN) | (with_reducible apply Sz.bytesW) | (with_reducible assumption) | (with_reducible exact Sz.base _))) ?_)⟩
          (try simp only [List.set_cons_zero, List.set_cons_succ])
          (repeat (first | (with_reducible exact Sel.nil) | (with_reducible apply Sel.cons) | (with_reducible exact Del.here) | (with_reducible apply Del.there))); (try (refine Sel.tl ?_; (repeat (first | (with_reducible exact Tl.here) | (with_reducible apply Tl.there)))))
        case measure => have := HK1.out.2; simp [intOf]; omega
      | false =>
      cases h1 : ltS y x with
      | true =>
        have HN : Hid (putT us x = (ts ++ [y]) ++ restT false (us.drop (k + 1)) x) := by show _ = _; rw [HE.out]; simp [restT, putT, h1]
        have h2 := ltS_asymm h1
        have h3 : eqB x y = false := by
          cases h : eqB x y with
          | false => rfl
          | true => rw [eqB_iff.1 h, ltS_irrefl] at h1; cases h1
        unfold ltS at h1 h2
        unfold eqB at h3
        go_wp2_with (at_builtin; refine wpList_append_lies _ (by rfl) _ _ 40 (by rfl) w.heap.size 9 i0 _ 1 _ Tryd.underlying40 hi0 hz0 hz1 hz2 (by rfl) (by decide) (.slice A' (ts.length) c') (ts.length) _ (by rfl) (Hp.rowM (by repeat (first | (with_reducible exact H) | (with_reducible apply Hp.alloc) | (with_reducible apply Hp.set) | (with_reducible apply Hp.drew) | (with_reducible apply Hp.drewN) | (with_reducible apply Hp.bytesW) | (with_reducible exact Upd.here) | (with_reducible exact Upd.hereR) | (with_reducible apply Upd.there) | (with_reducible apply Sz.alloc) | (with_reducible apply Sz.set) | (with_reducible apply Sz.drew) | (with_reducible apply Sz.drewN) | (with_reducible apply Sz.bytesW) | (with_reducible assumption) | (with_reducible exact Sz.base _))) (by repeat (first | (with_reducible exact List.mem_cons_self) | (with_reducible apply List.mem_cons_of_mem)))) ⟨wr.heap.size, 0, none⟩ 1 1 (encStr y) (by rfl) (by rfl) (Hp.news (by repeat (first | (with_reducible exact H) | (with_reducible apply Hp.alloc) | (with_reducible apply Hp.set) | (with_reducible apply Hp.drew) | (with_reducible apply Hp.drewN) | (with_reducible apply Hp.bytesW) | (with_reducible exact Upd.here) | (with_reducible exact Upd.hereR) | (with_reducible apply Upd.there) | (with_reducible apply Sz.alloc) | (with_reducible apply Sz.set) | (with_reducible apply Sz.drew) | (with_reducible apply Sz.drewN) | (with_reducible apply Sz.bytesW) | (with_reducible assumption) | (with_reducible exact Sz.base _))) 0 (by rfl)) (oneStr y) (by decide) hl (by omega) (Hp.b (by repeat (first | (with_reducible exact H) | (with_reducible apply Hp.alloc) | (with_reducible apply Hp.set) | (with_reducible apply Hp.drew) | (with_reducible apply Hp.drewN) | (with_reducible apply Hp.bytesW) | (with_reducible exact Upd.here) | (with_reducible exact Upd.hereR) | (with_reducible apply Upd.there) | (with_reducible apply Sz.alloc) | (with_reducible apply Sz.set) | (with_reducible apply Sz.drew) | (with_reducible apply Sz.drewN) | (with_reducible apply Sz.bytesW) | (with_reducible assumption) | (with_reducible exact Sz.base _)))).size _ rfl ?_; intro g cap wa hown hgrow hat hlt1; have H5 := Hp.appM (by repeat (first | (with_reducible exact H) | (with_reducible apply Hp.alloc) | (with_reducible apply Hp.set) | (with_reducible apply Hp.drew) | (with_reducible apply Hp.drewN) | (with_reducible apply Hp.bytesW) | (with_reducible exact Upd.here) | (with_reducible exact Upd.hereR) | (with_reducible apply Upd.there) | (with_reducible apply Sz.alloc) | (with_reducible apply Sz.set) | (with_reducible apply Sz.drew) | (with_reducible apply Sz.drewN) | (with_reducible apply Sz.bytesW) | (with_reducible assumption) | (with_reducible exact Sz.base _))) (by repeat (first | (with_reducible exact Rep.here) | (with_reducible apply Rep.there))) hown hgrow hat rfl hlt1; (try simp only [List.set_cons_zero, List.set_cons_succ, List.cons_append, List.nil_append] at H5); have FA := H5.facts; simp only [Facts, NeF, box, row, reg, cellsF, rStr, ne_eq, true_and, and_true, Nat.reduceAdd, Nat.zero_add] at FA)
        rw [rStr_snoc] at H5
        go_roundw
        case rel =>
          refine ⟨k + 1, HK1.out.1, by go_num, false, rfl, some ⟨g, 0, none⟩, cap, ts ++ [y], by (try rw [List.length_append]); rfl, HN, by show _ ≤ _; (try rw [List.length_append]); (try rw [List.length_append]); (try simp only [List.length_cons, List.length_nil, Bool.toNat_true, Bool.toNat_false]); have := HTL.out; (try simp only [Bool.toNat_true, Bool.toNat_false] at this); omega, Lib.hid (Hp.sel (by repeat (first | (with_reducible exact H5) | (with_reducible apply Hp.alloc) | (with_reducible apply Hp.set) | (with_reducible apply Hp.drew) | (with_reducible apply Hp.drewN) | (with_reducible apply Hp.bytesW) | (with_reducible exact Upd.here) | (with_reducible exact Upd.hereR) | (with_reducible apply Upd.there) | (with_reducible apply Sz.alloc) | (with_reducible apply Sz.set) | (with_reducible apply Sz.drew) | (with_reducible apply Sz.drewN) | (with_reducible apply Sz.bytesW) | (with_reducible assumption) | (with_reducible exact Sz.base _))) ?_)⟩
          (try simp only [List.set_cons_zero, List.set_cons_succ])
          (repeat (first | (with_reducible exact Sel.nil) | (with_reducible apply Sel.cons) | (with_reducible exact Del.here) | (with_reducible apply Del.there))); (try (refine Sel.tl ?_; (repeat (first | (with_reducible exact Tl.here) | (with_reducible apply Tl.there)))))
        case measure => have := HK1.out.2; simp [intOf]; omega
      | false =>
      cases h2 : ltS x y with
      | true =>
        have HN : Hid (putT us x = (ts ++ [x] ++ [y]) ++ restT true (us.drop (k + 1)) x) := by show _ = _; rw [HE.out]; simp [restT, putT, h1, h2]
        unfold ltS at h1 h2
        go_upto_region 9 with (at_builtin; refine wpList_append_lies _ (by rfl) _ _ 40 (by rfl) w.heap.size 9 i0 _ 1 _ Tryd.underlying40 hi0 hz0 hz1 hz2 (by rfl) (by decide) (.slice A' (ts.length) c') (ts.length) _ (by rfl) (Hp.rowM (by repeat (first | (with_reducible exact H) | (with_reducible apply Hp.alloc) | (with_reducible apply Hp.set) | (with_reducible apply Hp.drew) | (with_reducible apply Hp.drewN) | (with_reducible apply Hp.bytesW) | (with_reducible exact Upd.here) | (with_reducible exact Upd.hereR) | (with_reducible apply Upd.there) | (with_reducible apply Sz.alloc) | (with_reducible apply Sz.set) | (with_reducible apply Sz.drew) | (with_reducible apply Sz.drewN) | (with_reducible apply Sz.bytesW) | (with_reducible assumption) | (with_reducible exact Sz.base _))) (by repeat (first | (with_reducible exact List.mem_cons_self) | (with_reducible apply List.mem_cons_of_mem)))) ⟨wr.heap.size, 0, none⟩ 1 1 (encStr x) (by rfl) (by rfl) (Hp.news (by repeat (first | (with_reducible exact H) | (with_reducible apply Hp.alloc) | (with_reducible apply Hp.set) | (with_reducible apply Hp.drew) | (with_reducible apply Hp.drewN) | (with_reducible apply Hp.bytesW) | (with_reducible exact Upd.here) | (with_reducible exact Upd.hereR) | (with_reducible apply Upd.there) | (with_reducible apply Sz.alloc) | (with_reducible apply Sz.set) | (with_reducible apply Sz.drew) | (with_reducible apply Sz.drewN) | (with_reducible apply Sz.bytesW) | (with_reducible assumption) | (with_reducible exact Sz.base _))) 0 (by rfl)) (oneStr x) (by decide) hl (by omega) (Hp.b (by repeat (first | (with_reducible exact H) | (with_reducible apply Hp.alloc) | (with_reducible apply Hp.set) | (with_reducible apply Hp.drew) | (with_reducible apply Hp.drewN) | (with_reducible apply Hp.bytesW) | (with_reducible exact Upd.here) | (with_reducible exact Upd.hereR) | (with_reducible apply Upd.there) | (with_reducible apply Sz.alloc) | (with_reducible apply Sz.set) | (with_reducible apply Sz.drew) | (with_reducible apply Sz.drewN) | (with_reducible apply Sz.bytesW) | (with_reducible assumption) | (with_reducible exact Sz.base _)))).size _ rfl ?_; intro g cap wa hown hgrow hat hlt1; have H5 := Hp.appM (by repeat (first | (with_reducible exact H) | (with_reducible apply Hp.alloc) | (with_reducible apply Hp.set) | (with_reducible apply Hp.drew) | (with_reducible apply Hp.drewN) | (with_reducible apply Hp.bytesW) | (with_reducible exact Upd.here) | (with_reducible exact Upd.hereR) | (with_reducible apply Upd.there) | (with_reducible apply Sz.alloc) | (with_reducible apply Sz.set) | (with_reducible apply Sz.drew) | (with_reducible apply Sz.drewN) | (with_reducible apply Sz.bytesW) | (with_reducible assumption) | (with_reducible exact Sz.base _))) (by repeat (first | (with_reducible exact Rep.here) | (with_reducible apply Rep.there))) hown hgrow hat rfl hlt1; (try simp only [List.set_cons_zero, List.set_cons_succ, List.cons_append, List.nil_append] at H5); have FA := H5.facts; simp only [Facts, NeF, box, row, reg, cellsF, rStr, ne_eq, true_and, and_true, Nat.reduceAdd, Nat.zero_add] at FA)
        rw [rStr_snoc] at H5
        obtain ⟨g1, rfl⟩ : ∃ z, z = g := ⟨g, rfl⟩
        obtain ⟨cap1, rfl⟩ : ∃ z, z = cap := ⟨cap, rfl⟩
        obtain ⟨wb, rfl⟩ : ∃ z, z = wa := ⟨wa, rfl⟩
        clear hown hgrow hat hlt1 FA F H HP
        have H6 : Hp w wb [rStr (some ⟨g1, 0, none⟩) cap1 (ts ++ [x])] := (by refine Hp.sel (by repeat (first | (with_reducible exact H5) | (with_reducible apply Hp.alloc) | (with_reducible apply Hp.set) | (with_reducible apply Hp.drew) | (with_reducible apply Hp.drewN) | (with_reducible apply Hp.bytesW) | (with_reducible exact Upd.here) | (with_reducible exact Upd.hereR) | (with_reducible apply Upd.there) | (with_reducible apply Sz.alloc) | (with_reducible apply Sz.set) | (with_reducible apply Sz.drew) | (with_reducible apply Sz.drewN) | (with_reducible apply Sz.bytesW) | (with_reducible assumption) | (with_reducible exact Sz.base _))) ?_; (try simp only [List.set_cons_zero, List.set_cons_succ]); exact (by repeat (first | (with_reducible exact Sel.nil) | (with_reducible apply Sel.cons) | (with_reducible exact Del.here) | (with_reducible apply Del.there))))
        have c0 := HCK.out _ H6.b
        have hbw : b < wb.heap.size := Nat.lt_of_lt_of_le hb H6.b.size
        have hbe : ¬ b = wb.heap.size ∧ ¬ wb.heap.size = b := by omega
        have hl3 : (ts ++ [x]).length + 1 ≤ maxLen := by unfold maxLen; simp; omega
        have hl4 : (ts ++ [x]).length ≤ 1048578 := by simp; omega
        have hl9 : ts.length + 1 = (ts ++ [x]).length := by simp
        have HTL : Hid ((ts ++ [x]).length ≤ k + 1) := by show _ ≤ _; rw [List.length_append]; exact Nat.add_le_add_right HTL.out 1
        generalize ts ++ [x] = ts2 at *
        rw [hl9]
        clear hl9 H5
        have F := H6.facts; simp only [Facts, NeF, box, row, reg, cellsF, rStr, ne_eq, true_and, and_true, Nat.reduceAdd, Nat.zero_add] at F
        go_wp2_with (at_builtin; refine wpList_append_lies _ (by rfl) _ _ 40 (by rfl) w.heap.size 9 i0 _ 1 _ Tryd.underlying40 hi0 hz0 hz1 hz2 (by rfl) (by decide) (.slice (some ⟨g1, 0, none⟩) (ts2.length) cap1) (ts2.length) _ (by rfl) (Hp.rowM (by repeat (first | (with_reducible exact H6) | (with_reducible apply Hp.alloc) | (with_reducible apply Hp.set) | (with_reducible apply Hp.drew) | (with_reducible apply Hp.drewN) | (with_reducible apply Hp.bytesW) | (with_reducible exact Upd.here) | (with_reducible exact Upd.hereR) | (with_reducible apply Upd.there) | (with_reducible apply Sz.alloc) | (with_reducible apply Sz.set) | (with_reducible apply Sz.drew) | (with_reducible apply Sz.drewN) | (with_reducible apply Sz.bytesW) | (with_reducible assumption) | (with_reducible exact Sz.base _))) (by repeat (first | (with_reducible exact List.mem_cons_self) | (with_reducible apply List.mem_cons_of_mem)))) ⟨wb.heap.size, 0, none⟩ 1 1 (encStr y) (by rfl) (by rfl) (Hp.news (by repeat (first | (with_reducible exact H6) | (with_reducible apply Hp.alloc) | (with_reducible apply Hp.set) | (with_reducible apply Hp.drew) | (with_reducible apply Hp.drewN) | (with_reducible apply Hp.bytesW) | (with_reducible exact Upd.here) | (with_reducible exact Upd.hereR) | (with_reducible apply Upd.there) | (with_reducible apply Sz.alloc) | (with_reducible apply Sz.set) | (with_reducible apply Sz.drew) | (with_reducible apply Sz.drewN) | (with_reducible apply Sz.bytesW) | (with_reducible assumption) | (with_reducible exact Sz.base _))) 0 (by rfl)) (oneStr y) (by decide) hl3 (by omega) (Hp.b (by repeat (first | (with_reducible exact H6) | (with_reducible apply Hp.alloc) | (with_reducible apply Hp.set) | (with_reducible apply Hp.drew) | (with_reducible apply Hp.drewN) | (with_reducible apply Hp.bytesW) | (with_reducible exact Upd.here) | (with_reducible exact Upd.hereR) | (with_reducible apply Upd.there) | (with_reducible apply Sz.alloc) | (with_reducible apply Sz.set) | (with_reducible apply Sz.drew) | (with_reducible apply Sz.drewN) | (with_reducible apply Sz.bytesW) | (with_reducible assumption) | (with_reducible exact Sz.base _)))).size _ rfl ?_; intro g cap wa hown hgrow hat hlt1; have H7 := Hp.appM (by repeat (first | (with_reducible exact H6) | (with_reducible apply Hp.alloc) | (with_reducible apply Hp.set) | (with_reducible apply Hp.drew) | (with_reducible apply Hp.drewN) | (with_reducible apply Hp.bytesW) | (with_reducible exact Upd.here) | (with_reducible exact Upd.hereR) | (with_reducible apply Upd.there) | (with_reducible apply Sz.alloc) | (with_reducible apply Sz.set) | (with_reducible apply Sz.drew) | (with_reducible apply Sz.drewN) | (with_reducible apply Sz.bytesW) | (with_reducible assumption) | (with_reducible exact Sz.base _))) (by repeat (first | (with_reducible exact Rep.here) | (with_reducible apply Rep.there))) hown hgrow hat rfl hlt1; (try simp only [List.set_cons_zero, List.set_cons_succ, List.cons_append, List.nil_append] at H7); have FA := H7.facts; simp only [Facts, NeF, box, row, reg, cellsF, rStr, ne_eq, true_and, and_true, Nat.reduceAdd, Nat.zero_add] at FA)
        rw [rStr_snoc] at H7
        go_roundw
        case rel =>
          refine ⟨k + 1, HK1.out.1, by go_num, true, rfl, some ⟨g, 0, none⟩, cap, ts2 ++ [y], by (try rw [List.length_append]); rfl, HN, by show _ ≤ _; (try rw [List.length_append]); (try rw [List.length_append]); (try simp only [List.length_cons, List.length_nil, Bool.toNat_true, Bool.toNat_false]); have := HTL.out; (try simp only [Bool.toNat_true, Bool.toNat_false] at this); omega, Lib.hid (Hp.sel (by repeat (first | (with_reducible exact H7) | (with_reducible apply Hp.alloc) | (with_reducible apply Hp.set) | (with_reducible apply Hp.drew) | (with_reducible apply Hp.drewN) | (with_reducible apply Hp.bytesW) | (with_reducible exact Upd.here) | (with_reducible exact Upd.hereR) | (with_reducible apply Upd.there) | (with_reducible apply Sz.alloc) | (with_reducible apply Sz.set) | (with_reducible apply Sz.drew) | (with_reducible apply Sz.drewN) | (with_reducible apply Sz.bytesW) | (with_reducible assumption) | (with_reducible exact Sz.base _))) ?_)⟩
          (try simp only [List.set_cons_zero, List.set_cons_succ])
          (repeat (first | (with_reducible exact Sel.nil) | (with_reducible apply Sel.cons) | (with_reducible exact Del.here) | (with_reducible apply Del.there))); (try (refine Sel.tl ?_; (repeat (first | (with_reducible exact Tl.here) | (with_reducible apply Tl.there)))))
        case measure => have := HK1.out.2; simp [intOf]; omega
      | false =>
        have HN : Hid (putT us x = (ts ++ [y]) ++ restT true (us.drop (k + 1)) x) := by show _ = _; rw [HE.out]; simp [restT, putT, h1, h2]
        have h3 : eqB x y = true := by
          rcases ltS_tri x y with h | h | h
          · rw [h2] at h; cases h
          · exact eqB_iff.2 h
          · rw [h1] at h; cases h
        unfold ltS at h1 h2
        unfold eqB at h3
        go_wp2_with (at_builtin; refine wpList_append_lies _ (by rfl) _ _ 40 (by rfl) w.heap.size 9 i0 _ 1 _ Tryd.underlying40 hi0 hz0 hz1 hz2 (by rfl) (by decide) (.slice A' (ts.length) c') (ts.length) _ (by rfl) (Hp.rowM (by repeat (first | (with_reducible exact H) | (with_reducible apply Hp.alloc) | (with_reducible apply Hp.set) | (with_reducible apply Hp.drew) | (with_reducible apply Hp.drewN) | (with_reducible apply Hp.bytesW) | (with_reducible exact Upd.here) | (with_reducible exact Upd.hereR) | (with_reducible apply Upd.there) | (with_reducible apply Sz.alloc) | (with_reducible apply Sz.set) | (with_reducible apply Sz.drew) | (with_reducible apply Sz.drewN) | (with_reducible apply Sz.bytesW) | (with_reducible assumption) | (with_reducible exact Sz.base _))) (by repeat (first | (with_reducible exact List.mem_cons_self) | (with_reducible apply List.mem_cons_of_mem)))) ⟨wr.heap.size, 0, none⟩ 1 1 (encStr y) (by rfl) (by rfl) (Hp.news (by repeat (first | (with_reducible exact H) | (with_reducible apply Hp.alloc) | (with_reducible apply Hp.set) | (with_reducible apply Hp.drew) | (with_reducible apply Hp.drewN) | (with_reducible apply Hp.bytesW) | (with_reducible exact Upd.here) | (with_reducible exact Upd.hereR) | (with_reducible apply Upd.there) | (with_reducible apply Sz.alloc) | (with_reducible apply Sz.set) | (with_reducible apply Sz.drew) | (with_reducible apply Sz.drewN) | (with_reducible apply Sz.bytesW) | (with_reducible assumption) | (with_reducible exact Sz.base _))) 0 (by rfl)) (oneStr y) (by decide) hl (by omega) (Hp.b (by repeat (first | (with_reducible exact H) | (with_reducible apply Hp.alloc) | (with_reducible apply Hp.set) | (with_reducible apply Hp.drew) | (with_reducible apply Hp.drewN) | (with_reducible apply Hp.bytesW) | (with_reducible exact Upd.here) | (with_reducible exact Upd.hereR) | (with_reducible apply Upd.there) | (with_reducible apply Sz.alloc) | (with_reducible apply Sz.set) | (with_reducible apply Sz.drew) | (with_reducible apply Sz.drewN) | (with_reducible apply Sz.bytesW) | (with_reducible assumption) | (with_reducible exact Sz.base _)))).size _ rfl ?_; intro g cap wa hown hgrow hat hlt1; have H5 := Hp.appM (by repeat (first | (with_reducible exact H) | (with_reducible apply Hp.alloc) | (with_reducible apply Hp.set) | (with_reducible apply Hp.drew) | (with_reducible apply Hp.drewN) | (with_reducible apply Hp.bytesW) | (with_reducible exact Upd.here) | (with_reducible exact Upd.hereR) | (with_reducible apply Upd.there) | (with_reducible apply Sz.alloc) | (with_reducible apply Sz.set) | (with_reducible apply Sz.drew) | (with_reducible apply Sz.drewN) | (with_reducible apply Sz.bytesW) | (with_reducible assumption) | (with_reducible exact Sz.base _))) (by repeat (first | (with_reducible exact Rep.here) | (with_reducible apply Rep.there))) hown hgrow hat rfl hlt1; (try simp only [List.set_cons_zero, List.set_cons_succ, List.cons_append, List.nil_append] at H5); have FA := H5.facts; simp only [Facts, NeF, box, row, reg, cellsF, rStr, ne_eq, true_and, and_true, Nat.reduceAdd, Nat.zero_add] at FA)
        rw [rStr_snoc] at H5
        go_roundw
        case rel =>
          refine ⟨k + 1, HK1.out.1, by go_num, true, rfl, some ⟨g, 0, none⟩, cap, ts ++ [y], by (try rw [List.length_append]); rfl, HN, by show _ ≤ _; (try rw [List.length_append]); (try rw [List.length_append]); (try simp only [List.length_cons, List.length_nil, Bool.toNat_true, Bool.toNat_false]); have := HTL.out; (try simp only [Bool.toNat_true, Bool.toNat_false] at this); omega, Lib.hid (Hp.sel (by repeat (first | (with_reducible exact H5) | (with_reducible apply Hp.alloc) | (with_reducible apply Hp.set) | (with_reducible apply Hp.drew) | (with_reducible apply Hp.drewN) | (with_reducible apply Hp.bytesW) | (with_reducible exact Upd.here) | (with_reducible exact Upd.hereR) | (with_reducible apply Upd.there) | (with_reducible apply Sz.alloc) | (with_reducible apply Sz.set) | (with_reducible apply Sz.drew) | (with_reducible apply Sz.drewN) | (with_reducible apply Sz.bytesW) | (with_reducible assumption) | (with_reducible exact Sz.base _))) ?_)⟩
          (try simp only [List.set_cons_zero, List.set_cons_succ])
          (repeat (first | (with_reducible exact Sel.nil) | (with_reducible apply Sel.cons) | (with_reducible exact Del.here) | (with_reducible apply Del.there))); (try (refine Sel.tl ?_; (repeat (first | (with_reducible exact Tl.here) | (with_reducible apply Tl.there)))))
        case measure => have := HK1.out.2; simp [intOf]; omega
    · have hk1 : ¬ (k : Int) < (n : Int) := by omega
      have hd0 : us.drop k = [] := List.drop_eq_nil_of_le (by omega)
      rw [hd0] at HE
      cases pb with
      | true =>
        have HN : Hid (putT us x = ts) := by show _ = _; rw [HE.out]; simp [restT]
        clear hd0
        go_wp2_with fail
        go_ret
        exact ⟨A', c', by rw [HN.out]; rfl, by rw [HN.out]; exact H⟩
      | false =>
        have HN : Hid (putT us x = ts ++ [x]) := by show _ = _; rw [HE.out]; simp [restT, putT]
        clear hd0
        go_wp2_with (at_builtin; refine wpList_append_lies _ (by rfl) _ _ 40 (by rfl) w.heap.size 9 i0 _ 1 _ Tryd.underlying40 hi0 hz0 hz1 hz2 (by rfl) (by decide) (.slice A' (ts.length) c') (ts.length) _ (by rfl) (Hp.rowM (by repeat (first | (with_reducible exact H) | (with_reducible apply Hp.alloc) | (with_reducible apply Hp.set) | (with_reducible apply Hp.drew) | (with_reducible apply Hp.drewN) | (with_reducible apply Hp.bytesW) | (with_reducible exact Upd.here) | (with_reducible exact Upd.hereR) | (with_reducible apply Upd.there) | (with_reducible apply Sz.alloc) | (with_reducible apply Sz.set) | (with_reducible apply Sz.drew) | (with_reducible apply Sz.drewN) | (with_reducible apply Sz.bytesW) | (with_reducible assumption) | (with_reducible exact Sz.base _))) (by repeat (first | (with_reducible exact List.mem_cons_self) | (with_reducible apply List.mem_cons_of_mem)))) ⟨wr.heap.size, 0, none⟩ 1 1 (encStr x) (by rfl) (by rfl) (Hp.news (by repeat (first | (with_reducible exact H) | (with_reducible apply Hp.alloc) | (with_reducible apply Hp.set) | (with_reducible apply Hp.drew) | (with_reducible apply Hp.drewN) | (with_reducible apply Hp.bytesW) | (with_reducible exact Upd.here) | (with_reducible exact Upd.hereR) | (with_reducible apply Upd.there) | (with_reducible apply Sz.alloc) | (with_reducible apply Sz.set) | (with_reducible apply Sz.drew) | (with_reducible apply Sz.drewN) | (with_reducible apply Sz.bytesW) | (with_reducible assumption) | (with_reducible exact Sz.base _))) 0 (by rfl)) (oneStr x) (by decide) hl (by omega) (Hp.b (by repeat (first | (with_reducible exact H) | (with_reducible apply Hp.alloc) | (with_reducible apply Hp.set) | (with_reducible apply Hp.drew) | (with_reducible apply Hp.drewN) | (with_reducible apply Hp.bytesW) | (with_reducible exact Upd.here) | (with_reducible exact Upd.hereR) | (with_reducible apply Upd.there) | (with_reducible apply Sz.alloc) | (with_reducible apply Sz.set) | (with_reducible apply Sz.drew) | (with_reducible apply Sz.drewN) | (with_reducible apply Sz.bytesW) | (with_reducible assumption) | (with_reducible exact Sz.base _)))).size _ rfl ?_; intro g cap wa hown hgrow hat hlt1; have H5 := Hp.appM (by repeat (first | (with_reducible exact H) | (with_reducible apply Hp.alloc) | (with_reducible apply Hp.set) | (with_reducible apply Hp.drew) | (with_reducible apply Hp.drewN) | (with_reducible apply Hp.bytesW) | (with_reducible exact Upd.here) | (with_reducible exact Upd.hereR) | (with_reducible apply Upd.there) | (with_reducible apply Sz.alloc) | (with_reducible apply Sz.set) | (with_reducible apply Sz.drew) | (with_reducible apply Sz.drewN) | (with_reducible apply Sz.bytesW) | (with_reducible assumption) | (with_reducible exact Sz.base _))) (by repeat (first | (with_reducible exact Rep.here) | (with_reducible apply Rep.there))) hown hgrow hat rfl hlt1; (try simp only [List.set_cons_zero, List.set_cons_succ, List.cons_append, List.nil_append] at H5); have FA := H5.facts; simp only [Facts, NeF, box, row, reg, cellsF, rStr, ne_eq, true_and, and_true, Nat.reduceAdd, Nat.zero_add] at FA)
        rw [rStr_snoc] at H5
        go_ret
        exact ⟨some ⟨g, 0, none⟩, cap, by rw [HN.out, List.length_append]; rfl, by rw [HN.out]; exact (by refine Hp.sel (by repeat (first | (with_reducible exact H5) | (with_reducible apply Hp.alloc) | (with_reducible apply Hp.set) | (with_reducible apply Hp.drew) | (with_reducible apply Hp.drewN) | (with_reducible apply Hp.bytesW) | (with_reducible exact Upd.here) | (with_reducible exact Upd.hereR) | (with_reducible apply Upd.there) | (with_reducible apply Sz.alloc) | (with_reducible apply Sz.set) | (with_reducible apply Sz.drew) | (with_reducible apply Sz.drewN) | (with_reducible apply Sz.bytesW) | (with_reducible assumption) | (with_reducible exact Sz.base _))) ?_; (try simp only [List.set_cons_zero, List.set_cons_succ]); exact (by repeat (first | (with_reducible exact Sel.nil) | (with_reducible apply Sel.cons) | (with_reducible exact Del.here) | (with_reducible apply Del.there))))⟩
end Go.Proofs.YtklmcbabpncfmaaDoor
namespace Go.Proofs.YtklmcbabpncfmaaDoor
open Go.RowKit
set_option linter.unusedVariables false
set_option linter.unusedSimpArgs false
theorem Hp.boxNilB {w0 w : World} {L : List Ent} {g : Nat} (H : Hp w0 w (box g 5 [] :: L)) : Hp w0 w (rByte (some ⟨g, 0, none⟩) 0 [] :: L) := Hp.boxRow H 0 1 0 0 rfl rfl (Nat.le_refl _) (Nat.zero_le _)
set_option maxHeartbeats 8000000 in
set_option maxRecDepth 10000 in
theorem l01DrawBytes_hp (b : Nat) (A : Option Addr) (n c : Nat) (bs : List UInt8) (w v : World) (L : List Ent) (k0 : Nat) (hk0 : k0 ≤ 1000) (H : Hp w v L) (hm : curE b A n c ∈ L) (hr : Rd w w.heap.size 1 A n c (bs.flatMap encByte)) (hn : bs.length = n) :
    Calls Tryd.prog 32 #[.pointer (some ⟨b, 0, none⟩), .int .i64 k0] v fun e w' => ∃ (A' : Option Addr) (c' : Nat) (ds : List UInt8), e = .returned (.slice A' ds.length c') ∧ ds.length = k0 ∧ Hp w w' (rByte A' c' ds :: L) := by
  obtain ⟨i0, hi0, hz0, hz1, hz2⟩ := info_parts Tryd.infoByte
  go_enter Tryd.func32, Tryd.ntmps32
  go_wp2_with fail
  have HH := Lib.hid H; clear H
  go_loopw [5, 6] (fun s i wr => ∃ k : Nat, k ≤ k0 ∧ i = .int .i64 k ∧ ∃ (A' : Option Addr) (c' : Nat) (ds : List UInt8), s = .slice A' ds.length c' ∧ Hid (ds.length = k) ∧ Hid (Hp w wr (rByte A' c' ds :: L))) (fun _ i _ => k0 - (intOf i).toNat)
  case atStart =>
    have H := HH.out
    exact ⟨0, Nat.zero_le _, rfl, some ⟨v.heap.size, 0, none⟩, 0, [], rfl, rfl, Lib.hid (Hp.into (by repeat (first | (with_reducible exact H) | (with_reducible apply Hp.alloc) | (with_reducible apply Hp.set) | (with_reducible apply Hp.drew) | (with_reducible apply Hp.drewN) | (with_reducible apply Hp.bytesW) | (with_reducible exact Upd.here) | (with_reducible exact Upd.hereR) | (with_reducible apply Upd.there) | (with_reducible apply Sz.alloc) | (with_reducible apply Sz.set) | (with_reducible apply Sz.drew) | (with_reducible apply Sz.drewN) | (with_reducible apply Sz.bytesW) | (with_reducible assumption) | (with_reducible exact Sz.base _))) Hp.boxNilB)⟩
  case round =>
    clear HH
    obtain ⟨k, hk, rfl, A', c', ds, rfl, HD, HP⟩ := hrel
    have H := HP.out
    have F := H.facts; simp only [Facts, NeF, box, row, reg, cellsF, rByte, ne_eq, true_and, and_true, Nat.reduceAdd, Nat.zero_add] at F
    have hd := HD.out
    by_cases hlt : k < k0
    · have hk1 : (k : Int) < (k0 : Int) := by omega
      have HK1 : Hid (k + 1 ≤ k0 ∧ k0 - (k + 1) < k0 - k) := ⟨by omega, by omega⟩
      have hl : ds.length + 1 ≤ maxLen := by unfold maxLen; omega
      have hdl : ds.length ≤ 1000 := by omega
      clear hd hlt
      go_wp2_with (first | (go_at_call 33; refine (l01Below_hp b A n c bs w _ _ _ (by repeat (first | (with_reducible exact H) | (with_reducible apply Hp.alloc) | (with_reducible apply Hp.set) | (with_reducible apply Hp.drew) | (with_reducible apply Hp.drewN) | (with_reducible apply Hp.bytesW) | (with_reducible exact Upd.here) | (with_reducible exact Upd.hereR) | (with_reducible apply Upd.there) | (with_reducible apply Sz.alloc) | (with_reducible apply Sz.set) | (with_reducible apply Sz.drew) | (with_reducible apply Sz.drewN) | (with_reducible apply Sz.bytesW) | (with_reducible assumption) | (with_reducible exact Sz.base _))) (by repeat (first | (with_reducible exact hm) | (with_reducible exact List.mem_cons_self) | (with_reducible apply List.mem_cons_of_mem))) hr hn (by omega) (by omega)).mono ?_; rintro e wz2 ⟨x2, rfl, hx2, H2⟩; replace H := H2; clear H2; (try simp only [List.set_cons_zero, List.set_cons_succ, List.cons_append, List.nil_append] at H); (try clear F); (try have F := H.facts; simp only [Facts, NeF, box, row, reg, cellsF, rByte, ne_eq, true_and, and_true, Nat.reduceAdd, Nat.zero_add] at F)) | (go_at_call 29; refine (l01PickInt_hp b A n c bs w _ _ _ _ _ (fun y => 0 ≤ y ∧ y ≤ 255) (by repeat (first | (with_reducible exact H) | (with_reducible apply Hp.alloc) | (with_reducible apply Hp.set) | (with_reducible apply Hp.drew) | (with_reducible apply Hp.drewN) | (with_reducible apply Hp.bytesW) | (with_reducible exact Upd.here) | (with_reducible exact Upd.hereR) | (with_reducible apply Upd.there) | (with_reducible apply Sz.alloc) | (with_reducible apply Sz.set) | (with_reducible apply Sz.drew) | (with_reducible apply Sz.drewN) | (with_reducible apply Sz.bytesW) | (with_reducible assumption) | (with_reducible exact Sz.base _))) (by repeat (first | (with_reducible exact hm) | (with_reducible exact List.mem_cons_self) | (with_reducible apply List.mem_cons_of_mem))) (by repeat (first | (with_reducible exact List.mem_cons_self) | (with_reducible apply List.mem_cons_of_mem))) (by rfl) (by omega) (by omega) (by intro q hq; simp only [List.mem_cons, List.not_mem_nil, or_false] at hq; rcases hq with rfl | rfl | rfl | rfl | rfl | rfl <;> exact ⟨_, rfl, by omega⟩) hr hn).mono ?_; rintro e wz4 ⟨x4, rfl, hx4, H4⟩; replace H := H4; clear H4; (try simp only [List.set_cons_zero, List.set_cons_succ, List.cons_append, List.nil_append] at H); (try clear F); have F := H.facts; simp only [Facts, NeF, box, row, reg, cellsF, rByte, ne_eq, true_and, and_true, Nat.reduceAdd, Nat.zero_add] at F; obtain ⟨m4, rfl⟩ := Int.eq_ofNat_of_zero_le hx4.1; have hbm := byte_mark m4; obtain ⟨u4, hu4⟩ : ∃ u, u = UInt8.ofNat m4 := ⟨_, rfl⟩; rw [← hu4] at hbm; clear hu4) | (at_builtin; refine wpList_append_lies _ (by rfl) _ _ 22 (by rfl) w.heap.size 5 i0 _ 1 _ Tryd.underlying22 hi0 hz0 hz1 hz2 (by rfl) (by decide) (.slice A' (ds.length) c') (ds.length) _ (by rfl) (Hp.rowM (by repeat (first | (with_reducible exact H) | (with_reducible apply Hp.alloc) | (with_reducible apply Hp.set) | (with_reducible apply Hp.drew) | (with_reducible apply Hp.drewN) | (with_reducible apply Hp.bytesW) | (with_reducible exact Upd.here) | (with_reducible exact Upd.hereR) | (with_reducible apply Upd.there) | (with_reducible apply Sz.alloc) | (with_reducible apply Sz.set) | (with_reducible apply Sz.drew) | (with_reducible apply Sz.drewN) | (with_reducible apply Sz.bytesW) | (with_reducible assumption) | (with_reducible exact Sz.base _))) (by repeat (first | (with_reducible exact List.mem_cons_self) | (with_reducible apply List.mem_cons_of_mem)))) ⟨wz4.heap.size, 0, none⟩ 1 1 (encByte u4) (by rfl) (by rfl) (Hp.news (by repeat (first | (with_reducible exact H) | (with_reducible apply Hp.alloc) | (with_reducible apply Hp.set) | (with_reducible apply Hp.drew) | (with_reducible apply Hp.drewN) | (with_reducible apply Hp.bytesW) | (with_reducible exact Upd.here) | (with_reducible exact Upd.hereR) | (with_reducible apply Upd.there) | (with_reducible apply Sz.alloc) | (with_reducible apply Sz.set) | (with_reducible apply Sz.drew) | (with_reducible apply Sz.drewN) | (with_reducible apply Sz.bytesW) | (with_reducible assumption) | (with_reducible exact Sz.base _))) 0 (by rfl)) (oneByte u4) (by decide) hl (by omega) (Hp.b (by repeat (first | (with_reducible exact H) | (with_reducible apply Hp.alloc) | (with_reducible apply Hp.set) | (with_reducible apply Hp.drew) | (with_reducible apply Hp.drewN) | (with_reducible apply Hp.bytesW) | (with_reducible exact Upd.here) | (with_reducible exact Upd.hereR) | (with_reducible apply Upd.there) | (with_reducible apply Sz.alloc) | (with_reducible apply Sz.set) | (with_reducible apply Sz.drew) | (with_reducible apply Sz.drewN) | (with_reducible apply Sz.bytesW) | (with_reducible assumption) | (with_reducible exact Sz.base _)))).size _ rfl ?_; intro g cap wa hown hgrow hat hlt1; have H5 := Hp.appM (by repeat (first | (with_reducible exact H) | (with_reducible apply Hp.alloc) | (with_reducible apply Hp.set) | (with_reducible apply Hp.drew) | (with_reducible apply Hp.drewN) | (with_reducible apply Hp.bytesW) | (with_reducible exact Upd.here) | (with_reducible exact Upd.hereR) | (with_reducible apply Upd.there) | (with_reducible apply Sz.alloc) | (with_reducible apply Sz.set) | (with_reducible apply Sz.drew) | (with_reducible apply Sz.drewN) | (with_reducible apply Sz.bytesW) | (with_reducible assumption) | (with_reducible exact Sz.base _))) (by repeat (first | (with_reducible exact Rep.here) | (with_reducible apply Rep.there))) hown hgrow hat rfl hlt1; (try simp only [List.set_cons_zero, List.set_cons_succ, List.cons_append, List.nil_append] at H5); have FA := H5.facts; simp only [Facts, NeF, box, row, reg, cellsF, rByte, ne_eq, true_and, and_true, Nat.reduceAdd, Nat.zero_add] at FA))
      rw [rByte_snoc] at H5
      go_roundw
      case rel =>
        refine ⟨k + 1, HK1.out.1, by go_num, some ⟨g, 0, none⟩, cap, ds ++ [u4], by rw [List.length_append]; rfl, by show _ = _; rw [List.length_append, HD.out]; rfl, Lib.hid (Hp.sel (by repeat (first | (with_reducible exact H5) | (with_reducible apply Hp.alloc) | (with_reducible apply Hp.set) | (with_reducible apply Hp.drew) | (with_reducible apply Hp.drewN) | (with_reducible apply Hp.bytesW) | (with_reducible exact Upd.here) | (with_reducible exact Upd.hereR) | (with_reducible apply Upd.there) | (with_reducible apply Sz.alloc) | (with_reducible apply Sz.set) | (with_reducible apply Sz.drew) | (with_reducible apply Sz.drewN) | (with_reducible apply Sz.bytesW) | (with_reducible assumption) | (with_reducible exact Sz.base _))) ?_)⟩
        (try simp only [List.set_cons_zero, List.set_cons_succ])
        (repeat (first | (with_reducible exact Sel.nil) | (with_reducible apply Sel.cons) | (with_reducible exact Del.here) | (with_reducible apply Del.there))); (try (refine Sel.tl ?_; (repeat (first | (with_reducible exact Tl.here) | (with_reducible apply Tl.there)))))
      case measure => have := HK1.out.2; simp [intOf]; omega
    · have hk1 : ¬ (k : Int) < (k0 : Int) := by omega
      have HK : Hid (ds.length = k0) := by show _ = _; omega
      clear hd
      go_wp2_with fail
      go_ret
      exact ⟨A', c', ds, rfl, HK.out, H⟩
set_option maxHeartbeats 8000000 in
set_option maxRecDepth 10000 in
theorem l10DrawVersion_hp (b : Nat) (A : Option Addr) (n c : Nat) (bs : List UInt8) (w v : World) (L : List Ent) (H : Hp w v L) (hm : curE b A n c ∈ L) (hr : Rd w w.heap.size 1 A n c (bs.flatMap encByte)) (hn : bs.length = n) :
    Calls Tryd.prog 84 #[.pointer (some ⟨b, 0, none⟩)] v fun e w' => ∃ u : Ver, e = .returned (.agg #[.slice u.da u.data.length u.dc, .int .i64 u.made, .bool u.gone, .bool u.dead]) ∧ u.data.length ≤ 6 ∧ Hp w w' (rByte u.da u.dc u.data :: L) := by
  go_enter Tryd.func84, Tryd.ntmps84
  go_wp2_with (go_at_call 33; refine (l01Below_hp b A n c bs w _ _ _ (by repeat (first | (with_reducible exact H) | (with_reducible apply Hp.alloc) | (with_reducible apply Hp.set) | (with_reducible apply Hp.drew) | (with_reducible apply Hp.drewN) | (with_reducible apply Hp.bytesW) | (with_reducible exact Upd.here) | (with_reducible exact Upd.hereR) | (with_reducible apply Upd.there) | (with_reducible apply Sz.alloc) | (with_reducible apply Sz.set) | (with_reducible apply Sz.drew) | (with_reducible apply Sz.drewN) | (with_reducible apply Sz.bytesW) | (with_reducible assumption) | (with_reducible exact Sz.base _))) (by repeat (first | (with_reducible exact hm) | (with_reducible exact List.mem_cons_self) | (with_reducible apply List.mem_cons_of_mem))) hr hn (by omega) (by omega)).mono ?_; rintro e wz0 ⟨x0, rfl, hx0, H0⟩; replace H := H0; clear H0; (try simp only [List.set_cons_zero, List.set_cons_succ, List.cons_append, List.nil_append] at H); (try clear F); (try have F := H.facts; simp only [Facts, NeF, box, row, reg, cellsF, rByte, ne_eq, true_and, and_true, Nat.reduceAdd, Nat.zero_add] at F))
  obtain ⟨m0, rfl⟩ := Int.eq_ofNat_of_zero_le hx0.1
  refine (l01DrawBytes_hp b A n c bs w _ _ m0 (by omega) (by repeat (first | (with_reducible exact H) | (with_reducible apply Hp.alloc) | (with_reducible apply Hp.set) | (with_reducible apply Hp.drew) | (with_reducible apply Hp.drewN) | (with_reducible apply Hp.bytesW) | (with_reducible exact Upd.here) | (with_reducible exact Upd.hereR) | (with_reducible apply Upd.there) | (with_reducible apply Sz.alloc) | (with_reducible apply Sz.set) | (with_reducible apply Sz.drew) | (with_reducible apply Sz.drewN) | (with_reducible apply Sz.bytesW) | (with_reducible assumption) | (with_reducible exact Sz.base _))) (by repeat (first | (with_reducible exact hm) | (with_reducible exact List.mem_cons_self) | (with_reducible apply List.mem_cons_of_mem))) hr hn).mono ?_
  rintro e w5 ⟨dA, dC, ds, rfl, hds, H5⟩
  subst hds
  replace H := H5; clear H5; (try simp only [List.set_cons_zero, List.set_cons_succ, List.cons_append, List.nil_append] at H); clear F; have F := H.facts; simp only [Facts, NeF, box, row, reg, cellsF, rByte, ne_eq, true_and, and_true, Nat.reduceAdd, Nat.zero_add] at F
  go_wp2_with fail
  refine (l01Below_hp b A n c bs w _ _ _ (by repeat (first | (with_reducible exact H) | (with_reducible apply Hp.alloc) | (with_reducible apply Hp.set) | (with_reducible apply Hp.drew) | (with_reducible apply Hp.drewN) | (with_reducible apply Hp.bytesW) | (with_reducible exact Upd.here) | (with_reducible exact Upd.hereR) | (with_reducible apply Upd.there) | (with_reducible apply Sz.alloc) | (with_reducible apply Sz.set) | (with_reducible apply Sz.drew) | (with_reducible apply Sz.drewN) | (with_reducible apply Sz.bytesW) | (with_reducible assumption) | (with_reducible exact Sz.base _))) (by repeat (first | (with_reducible exact hm) | (with_reducible exact List.mem_cons_self) | (with_reducible apply List.mem_cons_of_mem))) hr hn (by omega) (by omega)).mono ?_
  rintro e w6 ⟨x6, rfl, hx6, H6⟩
  replace H := H6; clear H6; (try simp only [List.set_cons_zero, List.set_cons_succ, List.cons_append, List.nil_append] at H); clear F; have F := H.facts; simp only [Facts, NeF, box, row, reg, cellsF, rByte, ne_eq, true_and, and_true, Nat.reduceAdd, Nat.zero_add] at F
  go_wp2_with fail
  refine (l01Below_hp b A n c bs w _ _ _ (by repeat (first | (with_reducible exact H) | (with_reducible apply Hp.alloc) | (with_reducible apply Hp.set) | (with_reducible apply Hp.drew) | (with_reducible apply Hp.drewN) | (with_reducible apply Hp.bytesW) | (with_reducible exact Upd.here) | (with_reducible exact Upd.hereR) | (with_reducible apply Upd.there) | (with_reducible apply Sz.alloc) | (with_reducible apply Sz.set) | (with_reducible apply Sz.drew) | (with_reducible apply Sz.drewN) | (with_reducible apply Sz.bytesW) | (with_reducible assumption) | (with_reducible exact Sz.base _))) (by repeat (first | (with_reducible exact hm) | (with_reducible exact List.mem_cons_self) | (with_reducible apply List.mem_cons_of_mem))) hr hn (by omega) (by omega)).mono ?_
  rintro e w7 ⟨x7, rfl, hx7, H7⟩
  replace H := H7; clear H7; (try simp only [List.set_cons_zero, List.set_cons_succ, List.cons_append, List.nil_append] at H); clear F; have F := H.facts; simp only [Facts, NeF, box, row, reg, cellsF, rByte, ne_eq, true_and, and_true, Nat.reduceAdd, Nat.zero_add] at F
  have HDS : Hid (ds.length ≤ 6) := by show _ ≤ _; omega
  clear hx0
  rcases (show x7 = 0 ∨ x7 = 1 ∨ x7 = 2 ∨ x7 = 3 ∨ x7 = 4 by omega) with rfl | rfl | rfl | rfl | rfl
  · go_wp2_with fail
    refine bodyPost_ret (v := .agg #[.slice dA ds.length dC, .int .i64 x6, .bool true, .bool false]) (by simp [results, Tryd.results84, go_sem, F]) rfl ⟨⟨ds, dA, dC, x6, true, false⟩, rfl, HDS.out, Hp.sel (by repeat (first | (with_reducible exact H) | (with_reducible apply Hp.alloc) | (with_reducible apply Hp.set) | (with_reducible apply Hp.drew) | (with_reducible apply Hp.drewN) | (with_reducible apply Hp.bytesW) | (with_reducible exact Upd.here) | (with_reducible exact Upd.hereR) | (with_reducible apply Upd.there) | (with_reducible apply Sz.alloc) | (with_reducible apply Sz.set) | (with_reducible apply Sz.drew) | (with_reducible apply Sz.drewN) | (with_reducible apply Sz.bytesW) | (with_reducible assumption) | (with_reducible exact Sz.base _))) ?_⟩
    (try simp only [List.set_cons_zero, List.set_cons_succ])
    (repeat (first | (with_reducible exact Sel.nil) | (with_reducible apply Sel.cons) | (with_reducible exact Del.here) | (with_reducible apply Del.there))); (try (refine Sel.tl ?_; (repeat (first | (with_reducible exact Tl.here) | (with_reducible apply Tl.there)))))
  · go_wp2_with fail
    refine bodyPost_ret (v := .agg #[.slice none 0 0, .int .i64 x6, .bool false, .bool true]) (by simp [results, Tryd.results84, go_sem, F]) rfl ⟨⟨[], none, 0, x6, false, true⟩, rfl, Nat.zero_le _, Hp.cons_nilRow (Hp.sel (by repeat (first | (with_reducible exact H) | (with_reducible apply Hp.alloc) | (with_reducible apply Hp.set) | (with_reducible apply Hp.drew) | (with_reducible apply Hp.drewN) | (with_reducible apply Hp.bytesW) | (with_reducible exact Upd.here) | (with_reducible exact Upd.hereR) | (with_reducible apply Upd.there) | (with_reducible apply Sz.alloc) | (with_reducible apply Sz.set) | (with_reducible apply Sz.drew) | (with_reducible apply Sz.drewN) | (with_reducible apply Sz.bytesW) | (with_reducible assumption) | (with_reducible exact Sz.base _))) ?_) 5 1⟩
    (try simp only [List.set_cons_zero, List.set_cons_succ])
    (repeat (first | (with_reducible exact Sel.nil) | (with_reducible apply Sel.cons) | (with_reducible exact Del.here) | (with_reducible apply Del.there))); (try (refine Sel.tl ?_; (repeat (first | (with_reducible exact Tl.here) | (with_reducible apply Tl.there)))))
  all_goals
    go_wp2_with fail
    refine bodyPost_ret (v := .agg #[.slice dA ds.length dC, .int .i64 x6, .bool false, .bool false]) (by simp [results, Tryd.results84, go_sem, F]) rfl ⟨⟨ds, dA, dC, x6, false, false⟩, rfl, HDS.out, Hp.sel (by repeat (first | (with_reducible exact H) | (with_reducible apply Hp.alloc) | (with_reducible apply Hp.set) | (with_reducible apply Hp.drew) | (with_reducible apply Hp.drewN) | (with_reducible apply Hp.bytesW) | (with_reducible exact Upd.here) | (with_reducible exact Upd.hereR) | (with_reducible apply Upd.there) | (with_reducible apply Sz.alloc) | (with_reducible apply Sz.set) | (with_reducible apply Sz.drew) | (with_reducible apply Sz.drewN) | (with_reducible apply Sz.bytesW) | (with_reducible assumption) | (with_reducible exact Sz.base _))) ?_⟩
    (try simp only [List.set_cons_zero, List.set_cons_succ])
    (repeat (first | (with_reducible exact Sel.nil) | (with_reducible apply Sel.cons) | (with_reducible exact Del.here) | (with_reducible apply Del.there))); (try (refine Sel.tl ?_; (repeat (first | (with_reducible exact Tl.here) | (with_reducible apply Tl.there)))))
end Go.Proofs.YtklmcbabpncfmaaDoor
namespace Go.Proofs.YtklmcbabpncfmaaDoor
open Go.RowKit
set_option linter.unusedVariables false
set_option linter.unusedSimpArgs false
theorem permM {P V R : List Ent} {x : Ent} : List.Perm (P ++ (V ++ ([x] ++ R))) ((P ++ [x]) ++ (V ++ R)) := by
  letI : DecidableEq Ent := fun a b => Classical.propDecidable (a = b)
  rw [List.perm_iff_count]
  intro e
  simp only [List.count_append]
  omega
theorem permE {P E V L : List Ent} {a : Ent} : List.Perm (P ++ (a :: (V ++ (E ++ L)))) (P ++ ((E ++ (a :: V)) ++ L)) := by
  letI : DecidableEq Ent := fun a b => Classical.propDecidable (a = b)
  rw [List.perm_iff_count]
  intro e
  simp only [List.count_append, List.count_cons]
  omega
theorem drawn_open {w0 : World} {A2 va : Option Addr} {d2 vc i : Nat} {es : List Entry} {L : List Ent} {path : ByteArray} {first : Int} {vs : List Ver} (hi : i < es.length) (he : es[i] = ⟨path, first, vs, va, vc⟩) :
    ∃ N', (∀ P : List Ent, List.Perm (P ++ (es.flatMap entF ++ L)) (P ++ (row 71 4 (.slice va vs.length vc) vs.length (vs.flatMap encVer) :: (vs.flatMap verF ++ (N' ++ L))))) ∧
      ∀ (e' : Entry) (W : World) (B C D : Ent), Hp w0 W (row 62 3 (.slice A2 es.length d2) es.length ((es.set i e').flatMap encEntry) :: B :: C :: D :: (entF e' ++ (N' ++ L))) → Hp w0 W (stoE A2 d2 es.length (es.set i e') :: L) := by
  have hself : es = es.take i ++ (⟨path, first, vs, va, vc⟩ : Entry) :: es.drop (i + 1) := by rw [← he, ← List.drop_eq_getElem_cons hi, List.take_append_drop]
  have hF : es.flatMap entF = (es.take i).flatMap entF ++ (entF ⟨path, first, vs, va, vc⟩ ++ (es.drop (i + 1)).flatMap entF) := by
    conv => lhs; rw [hself]
    rw [List.flatMap_append, List.flatMap_cons]
  refine ⟨(es.take i).flatMap entF ++ (es.drop (i + 1)).flatMap entF, fun P => ?_, fun e' W B C D H => ?_⟩
  · rw [hF]
    show List.Perm (P ++ ((_ ++ ((row 71 4 (.slice va vs.length vc) vs.length (vs.flatMap encVer) :: vs.flatMap verF) ++ _)) ++ L)) _
    generalize row 71 4 (.slice va vs.length vc) vs.length (vs.flatMap encVer) = a
    generalize vs.flatMap verF = X
    generalize (es.take i).flatMap entF = T
    generalize (es.drop (i + 1)).flatMap entF = U
    letI : DecidableEq Ent := fun a b => Classical.propDecidable (a = b)
    rw [List.perm_iff_count]
    intro e
    simp only [List.count_cons, List.count_append]
    omega
  · have hX : (es.set i e').flatMap entF = (es.take i).flatMap entF ++ (entF e' ++ (es.drop (i + 1)).flatMap entF) := by
      rw [List.set_eq_take_append_cons_drop, if_pos hi, List.flatMap_append, List.flatMap_cons]
    refine (Hp.pack L (stoR A2 d2 es.length (es.set i e')) (H.sel ⟨[B, C, D], ?_⟩)).perm (List.perm_append_singleton _ _).symm
    show List.Perm ((L ++ (row 62 3 (.slice A2 es.length d2) es.length ((es.set i e').flatMap encEntry) :: (es.set i e').flatMap entF)) ++ [B, C, D]) _
    rw [hX]
    generalize row 62 3 (.slice A2 es.length d2) es.length ((es.set i e').flatMap encEntry) = b
    generalize entF e' = X
    generalize (es.take i).flatMap entF = T
    generalize (es.drop (i + 1)).flatMap entF = U
    letI : DecidableEq Ent := fun a b => Classical.propDecidable (a = b)
    rw [List.perm_iff_count]
    intro e
    simp only [List.count_cons, List.count_append, List.count_nil]
    omega
theorem nilV {w0 W : World} {a B C D r : Ent} {X Y : List Ent} (H : Hp w0 W (a :: B :: C :: D :: r :: (X ++ Y))) : Hp w0 W (a :: B :: C :: D :: (row 71 4 (.slice none 0 0) 0 [] :: ([] ++ Y))) := by
  refine (Hp.cons_nilRow (H.sel (R := a :: B :: C :: D :: Y) ⟨r :: X, ?_⟩) 71 4).perm ?_
  · letI : DecidableEq Ent := fun a b => Classical.propDecidable (a = b)
    rw [List.perm_iff_count]
    intro e
    simp only [List.count_cons, List.count_append]
    omega
  · letI : DecidableEq Ent := fun a b => Classical.propDecidable (a = b)
    rw [List.perm_iff_count]
    intro e
    simp only [List.count_cons, List.count_append, List.count_nil]
    omega
theorem flat_same {α β : Type} {f : α → List β} {l : List α} {i : Nat} {v : α} (hi : i < l.length) (h : f v = f l[i]) : (l.set i v).flatMap f = l.flatMap f := by
  conv => rhs; rw [← List.take_append_drop i l, List.drop_eq_getElem_cons hi]
  rw [List.set_eq_take_append_cons_drop, if_pos hi, List.flatMap_append, List.flatMap_cons, h, List.flatMap_append, List.flatMap_cons]
theorem Hp.tail1 {w0 W : World} {e : Ent} {L : List Ent} (H : Hp w0 W (e :: L)) : Hp w0 W L := H.tails (Tl.there Tl.here)
/-- What a drawn entry is known by. -/
def EntD (u : Entry) : Prop := u.path.size ≤ 250 ∧ (1 ≤ u.vs.length ∧ u.vs.length ≤ 8) ∧ ∀ x ∈ u.vs, x.data.length ≤ 6
def EntW (u : Entry) : Prop := u.path.size ≤ 250 ∧ u.vs.length ≤ 8 ∧ ∀ x ∈ u.vs, x.data.length ≤ 6
def StoD (es : List Entry) : Prop := es.length ≤ 20 ∧ ∀ u ∈ es, u.path.size ≤ 250 ∧ u.vs.length ≤ 8 ∧ ∀ x ∈ u.vs, x.data.length ≤ 6
set_option maxHeartbeats 32000000 in
set_option maxRecDepth 10000 in
theorem l10DrawStore_hp (b : Nat) (A : Option Addr) (n c : Nat) (bs : List UInt8) (w v : World) (L : List Ent) (m : Nat) (hm14 : m ≤ 14) (H : Hp w v L) (hm : curE b A n c ∈ L) (hr : Rd w w.heap.size 1 A n c (bs.flatMap encByte)) (hn : bs.length = n) :
    Calls Tryd.prog 61 #[.pointer (some ⟨b, 0, none⟩), .int .i64 m] v fun e w' => ∃ (A' : Option Addr) (c' : Nat) (es : List Entry), e = .returned (.agg #[.slice A' es.length c']) ∧ StoD es ∧ Hp w w' (stoE A' c' es.length es :: L) := by
  obtain ⟨i0, hi0, hz0, hz1, hz2⟩ := info_parts Tryd.infoEntry
  obtain ⟨j0, hj0, hy0, hy1, hy2⟩ := info_parts Tryd.infoVer
  go_enter Tryd.func61, Tryd.ntmps61
  go_wp2_with fail
  have HH := Lib.hid H; clear H
  go_loopw [7, 6, 8] (fun i s pq wr => ∃ k : Nat, k ≤ m ∧ i = .int .i64 k ∧ ∃ (A1 : Option Addr) (d1 : Nat) (ps : List ByteArray), s = .slice A1 ps.length d1 ∧ Hid (ps.length ≤ k ∧ ∀ y ∈ ps, y.size ≤ 250) ∧ Hid (Hp w wr (rStr A1 d1 ps :: box (v.heap.size + 1) 26 [.slice none 0 0] :: box v.heap.size 26 [.slice none 0 0] :: L))) (fun i _ _ _ => m - (intOf i).toNat)
  case atStart =>
    have H := HH.out
    exact ⟨0, Nat.zero_le _, rfl, some ⟨v.heap.size + 1 + 1, 0, none⟩, 0, [], rfl, ⟨Nat.le_refl _, fun y hy => (by cases hy)⟩, Lib.hid (Hp.into (by repeat (first | (with_reducible exact H) | (with_reducible apply Hp.alloc) | (with_reducible apply Hp.set) | (with_reducible apply Hp.drew) | (with_reducible apply Hp.drewN) | (with_reducible apply Hp.bytesW) | (with_reducible exact Upd.here) | (with_reducible exact Upd.hereR) | (with_reducible apply Upd.there) | (with_reducible apply Sz.alloc) | (with_reducible apply Sz.set) | (with_reducible apply Sz.drew) | (with_reducible apply Sz.drewN) | (with_reducible apply Sz.bytesW) | (with_reducible assumption) | (with_reducible exact Sz.base _))) Hp.boxNilS)⟩
  case round =>
    clear HH
    obtain ⟨k, hk, rfl, A1, d1, ps, rfl, HPS, HP⟩ := hrel
    have H := HP.out
    have F := H.facts; simp only [Facts, NeF, box, row, reg, cellsF, rByte, rStr, ne_eq, true_and, and_true, Nat.reduceAdd, Nat.zero_add] at F
    have hpl := HPS.out.1
    by_cases hlt : k < m
    · have hk1 : (k : Int) < (m : Int) := by omega
      have HK1 : Hid (k + 1 ≤ m ∧ m - (k + 1) < m - k) := ⟨by omega, by omega⟩
      clear hlt
      go_wp2_with fail
      refine (l01DrawPath_hp b A n c bs w _ _ (by repeat (first | (with_reducible exact H) | (with_reducible apply Hp.alloc) | (with_reducible apply Hp.set) | (with_reducible apply Hp.drew) | (with_reducible apply Hp.drewN) | (with_reducible apply Hp.bytesW) | (with_reducible exact Upd.here) | (with_reducible exact Upd.hereR) | (with_reducible apply Upd.there) | (with_reducible apply Sz.alloc) | (with_reducible apply Sz.set) | (with_reducible apply Sz.drew) | (with_reducible apply Sz.drewN) | (with_reducible apply Sz.bytesW) | (with_reducible assumption) | (with_reducible exact Sz.base _))) (by repeat (first | (with_reducible exact hm) | (with_reducible exact List.mem_cons_self) | (with_reducible apply List.mem_cons_of_mem))) hr hn).mono ?_
      rintro e w1 ⟨x1, rfl, hx1, H1⟩
      replace H := H1; clear H1 F; have F := H.facts; simp only [Facts, NeF, box, row, reg, cellsF, rByte, rStr, ne_eq, true_and, and_true, Nat.reduceAdd, Nat.zero_add] at F
      have hx1m : x1.size ≤ maxLen := by unfold maxLen; omega
      go_wp2_with fail
      refine (PathOk_any x1 _ hx1m).mono ?_
      rintro e w2 ⟨rfl, q2⟩
      replace H := Hp.step (by repeat (first | (with_reducible exact H) | (with_reducible apply Hp.alloc) | (with_reducible apply Hp.set) | (with_reducible apply Hp.drew) | (with_reducible apply Hp.drewN) | (with_reducible apply Hp.bytesW) | (with_reducible exact Upd.here) | (with_reducible exact Upd.hereR) | (with_reducible apply Upd.there) | (with_reducible apply Sz.alloc) | (with_reducible apply Sz.set) | (with_reducible apply Sz.drew) | (with_reducible apply Sz.drewN) | (with_reducible apply Sz.bytesW) | (with_reducible assumption) | (with_reducible exact Sz.base _))) q2; (try simp only [List.set_cons_zero, List.set_cons_succ, List.cons_append, List.nil_append] at H); clear q2 F; have F := H.facts; simp only [Facts, NeF, box, row, reg, cellsF, rByte, rStr, ne_eq, true_and, and_true, Nat.reduceAdd, Nat.zero_add] at F
      cases hpf : pathF x1 with
      | true =>
        go_wp2_with fail
        refine (l10Put_hp A1 ps.length d1 ps x1 _ (Hp.rdM (by repeat (first | (with_reducible exact H) | (with_reducible apply Hp.alloc) | (with_reducible apply Hp.set) | (with_reducible apply Hp.drew) | (with_reducible apply Hp.drewN) | (with_reducible apply Hp.bytesW) | (with_reducible exact Upd.here) | (with_reducible exact Upd.hereR) | (with_reducible apply Upd.there) | (with_reducible apply Sz.alloc) | (with_reducible apply Sz.set) | (with_reducible apply Sz.drew) | (with_reducible apply Sz.drewN) | (with_reducible apply Sz.bytesW) | (with_reducible assumption) | (with_reducible exact Sz.base _))) (by repeat (first | (with_reducible exact List.mem_cons_self) | (with_reducible apply List.mem_cons_of_mem)))) rfl (by omega)).mono ?_
        rintro e w3 ⟨A3, d3, rfl, h3⟩
        replace H := Hp.call (by repeat (first | (with_reducible exact H) | (with_reducible apply Hp.alloc) | (with_reducible apply Hp.set) | (with_reducible apply Hp.drew) | (with_reducible apply Hp.drewN) | (with_reducible apply Hp.bytesW) | (with_reducible exact Upd.here) | (with_reducible exact Upd.hereR) | (with_reducible apply Upd.there) | (with_reducible apply Sz.alloc) | (with_reducible apply Sz.set) | (with_reducible apply Sz.drew) | (with_reducible apply Sz.drewN) | (with_reducible apply Sz.bytesW) | (with_reducible assumption) | (with_reducible exact Sz.base _))) h3; (try simp only [List.set_cons_zero, List.set_cons_succ, List.cons_append, List.nil_append] at H); clear h3 F
        have HN : Hid ((putT ps x1).length ≤ k + 1 ∧ ∀ y ∈ putT ps x1, y.size ≤ 250) := ⟨by have := putT_len ps x1; have := HPS.out.1; omega, putT_all HPS.out.2 hx1⟩
        generalize putT ps x1 = ps2 at *
        go_wp2_with fail
        go_roundw
        case rel =>
          refine ⟨k + 1, HK1.out.1, by go_num, A3, d3, ps2, rfl, HN, Lib.hid (Hp.sel (by repeat (first | (with_reducible exact H) | (with_reducible apply Hp.alloc) | (with_reducible apply Hp.set) | (with_reducible apply Hp.drew) | (with_reducible apply Hp.drewN) | (with_reducible apply Hp.bytesW) | (with_reducible exact Upd.here) | (with_reducible exact Upd.hereR) | (with_reducible apply Upd.there) | (with_reducible apply Sz.alloc) | (with_reducible apply Sz.set) | (with_reducible apply Sz.drew) | (with_reducible apply Sz.drewN) | (with_reducible apply Sz.bytesW) | (with_reducible assumption) | (with_reducible exact Sz.base _))) ?_)⟩
          (try simp only [List.cons_append, List.nil_append, List.set_cons_zero, List.set_cons_succ]); (repeat (first | (with_reducible exact Sel.nil) | (with_reducible apply Sel.cons) | (with_reducible exact Del.here) | (with_reducible apply Del.there))); (try (refine Sel.tl ?_; (repeat (first | (with_reducible exact Tl.here) | (with_reducible apply Tl.there)))))
        case measure => have := HK1.out.2; simp [intOf]; omega
      | false =>
        go_wp2_with fail
        go_roundw
        case rel => exact ⟨k + 1, HK1.out.1, by go_num, A1, d1, ps, rfl, ⟨Nat.le_succ_of_le HPS.out.1, HPS.out.2⟩, Lib.hid (by repeat (first | (with_reducible exact H) | (with_reducible apply Hp.alloc) | (with_reducible apply Hp.set) | (with_reducible apply Hp.drew) | (with_reducible apply Hp.drewN) | (with_reducible apply Hp.bytesW) | (with_reducible exact Upd.here) | (with_reducible exact Upd.hereR) | (with_reducible apply Upd.there) | (with_reducible apply Sz.alloc) | (with_reducible apply Sz.set) | (with_reducible apply Sz.drew) | (with_reducible apply Sz.drewN) | (with_reducible apply Sz.bytesW) | (with_reducible assumption) | (with_reducible exact Sz.base _)))⟩
        case measure => have := HK1.out.2; simp [intOf]; omega
    · have hk1 : ¬ (k : Int) < (m : Int) := by omega
      have HP14 : Hid (ps.length ≤ 14) := by show _ ≤ _; omega
      clear hlt hpl
      go_wp2_with fail
      have HH := Lib.hid H; clear H HP
      go_loopw [9, 10, 11, 12] (fun i s10 s11 s12 wr => ∃ k : Nat, k ≤ ps.length ∧ i = .int .i64 k ∧ ∃ (A2 : Option Addr) (d2 : Nat) (es : List Entry), Hid (es.length = k ∧ ∀ u ∈ es, EntD u) ∧ Hid (Hp w wr ([row 62 3 (.slice A2 es.length d2) es.length (es.flatMap encEntry), box (v.heap.size + 1) 26 [.slice A2 es.length d2], rStr A1 d1 ps, box v.heap.size 26 [.slice none 0 0]] ++ (es.flatMap entF ++ L)))) (fun i _ _ _ _ => ps.length - (intOf i).toNat)
      case atStart =>
        have H := HH.out
        exact ⟨0, Nat.zero_le _, rfl, none, 0, [], ⟨rfl, fun u hu => (by cases hu)⟩, Lib.hid (Hp.into (by repeat (first | (with_reducible exact H) | (with_reducible apply Hp.alloc) | (with_reducible apply Hp.set) | (with_reducible apply Hp.drew) | (with_reducible apply Hp.drewN) | (with_reducible apply Hp.bytesW) | (with_reducible exact Upd.here) | (with_reducible exact Upd.hereR) | (with_reducible apply Upd.there) | (with_reducible apply Sz.alloc) | (with_reducible apply Sz.set) | (with_reducible apply Sz.drew) | (with_reducible apply Sz.drewN) | (with_reducible apply Sz.bytesW) | (with_reducible assumption) | (with_reducible exact Sz.base _))) fun H1 => Hp.sel (Hp.cons_nilRow H1 62 3) (by
          show Sel _ (row 62 3 (.slice none 0 0) 0 [] :: box (v.heap.size + 1) 26 [.slice none 0 0] :: rStr A1 d1 ps :: box v.heap.size 26 [.slice none 0 0] :: L)
          (try simp only [List.cons_append, List.nil_append, List.set_cons_zero, List.set_cons_succ]); (repeat (first | (with_reducible exact Sel.nil) | (with_reducible apply Sel.cons) | (with_reducible exact Del.here) | (with_reducible apply Del.there))); (try (refine Sel.tl ?_; (repeat (first | (with_reducible exact Tl.here) | (with_reducible apply Tl.there)))))))⟩
      case round =>
        clear HH F
        obtain ⟨k, hk, rfl, A2, d2, es, HES, HP⟩ := hrel
        have H := HP.out
        simp only [List.cons_append, List.nil_append] at H
        have F := H.facts; simp only [Facts, NeF, box, row, reg, cellsF, rByte, rStr, ne_eq, true_and, and_true, Nat.reduceAdd, Nat.zero_add] at F
        by_cases hlt : k < ps.length
        · have hk1 : (k : Int) < (ps.length : Int) := by omega
          have hk0 : (0 : Int) ≤ (k : Int) := by omega
          have HK1 : Hid (k + 1 ≤ ps.length ∧ ps.length - (k + 1) < ps.length - k) := ⟨by omega, by omega⟩
          have hpp : (ps[k]).size ≤ 250 := HPS.out.2 _ (List.getElem_mem hlt)
          obtain ⟨gs, rfl⟩ := rowGm (H.rowM (t := 9) (k := 1) (v := .slice A1 ps.length d1) (n := ps.length) (xs := ps.flatMap encStr) (show rStr A1 d1 ps ∈ _ from (by repeat (first | (with_reducible exact List.mem_cons_self) | (with_reducible apply List.mem_cons_of_mem))))) (by omega)
          have hck : ∀ (W : World) (M : List Ent), Hp w W M → rStr (some ⟨gs, 0, none⟩) d1 ps ∈ M → W.cell? ⟨gs, k, none⟩ = some (.string ps[k]) := fun W M h hmm => by
            have h9 : W.ownsRow w.heap.size 9 1 (.slice (some ⟨gs, 0, none⟩) ps.length d1) ps.length (ps.flatMap encStr) := h.rowM hmm
            exact own_at h9 (j := k) (by have h := flat_get encStr 1 encStr_len ps k 0 (by decide); rw [Nat.mul_one, Nat.add_zero, List.getElem?_eq_getElem hlt] at h; exact h)
          have HCK := Lib.hid hck; clear hck
          generalize ps[k] = p at *
          have c0 := HCK.out _ _ H (by repeat (first | (with_reducible exact List.mem_cons_self) | (with_reducible apply List.mem_cons_of_mem)))
          have hgs : gs < wr.heap.size := ((H.ok (rStr (some ⟨gs, 0, none⟩) d1 ps) (by repeat (first | (with_reducible exact List.mem_cons_self) | (with_reducible apply List.mem_cons_of_mem)))).lt gs rfl).2
          have hgt : (¬ gs = wr.heap.size ∧ ¬ wr.heap.size = gs) ∧ (¬ gs = wr.heap.size + 1 ∧ ¬ wr.heap.size + 1 = gs) := by omega
          have hm := List.mem_append_right (es.flatMap entF) hm
          have HLT := Lib.hid hlt; clear hlt
          go_upto_region 12 with fail
          go_cut [10] (fun s10 wc => ∃ (at0 : Nat) (fx : Int), s10 = .pointer (some ⟨at0, 0, none⟩) ∧ Hp w wc ([box at0 62 [.string p, .int .i64 fx, .slice none 0 0], row 62 3 (.slice A2 es.length d2) es.length (es.flatMap encEntry), box (v.heap.size + 1) 26 [.slice A2 es.length d2], rStr (some ⟨gs, 0, none⟩) d1 ps, box v.heap.size 26 [.slice none 0 0]] ++ (es.flatMap entF ++ L)))
          case first =>
            go_region_held3 (fun w' => w'.cell? ⟨gs, k, none⟩ = some (.string p)) (go_keep) (first | (go_at_call 29; refine (l01PickInt_t b A n c bs w _ _ _ _ _ (by repeat (first | (with_reducible exact H) | (with_reducible apply Hp.alloc) | (with_reducible apply Hp.set) | (with_reducible apply Hp.drew) | (with_reducible apply Hp.drewN) | (with_reducible apply Hp.bytesW) | (with_reducible exact Upd.here) | (with_reducible exact Upd.hereR) | (with_reducible apply Upd.there) | (with_reducible apply Sz.alloc) | (with_reducible apply Sz.set) | (with_reducible apply Sz.drew) | (with_reducible apply Sz.drewN) | (with_reducible apply Sz.bytesW) | (with_reducible assumption) | (with_reducible exact Sz.base _))) (by repeat (first | (with_reducible exact hm) | (with_reducible exact List.mem_cons_self) | (with_reducible apply List.mem_cons_of_mem))) (by repeat (first | (with_reducible exact List.mem_cons_self) | (with_reducible apply List.mem_cons_of_mem))) (by rfl) (by omega) (by omega) (by repeat (first | exact trivial | refine ⟨⟨_, rfl⟩, ?_⟩)) hr hn).mono ?_; rintro e wz4 ⟨x4, rfl, H4⟩; replace H := H4; clear H4; (try simp only [List.set_cons_zero, List.set_cons_succ, List.cons_append, List.nil_append] at H); (try clear F); have F := H.facts; simp only [Facts, NeF, box, row, reg, cellsF, rByte, rStr, ne_eq, true_and, and_true, Nat.reduceAdd, Nat.zero_add] at F; have c1 := HCK.out _ _ H (by repeat (first | (with_reducible exact List.mem_cons_self) | (with_reducible apply List.mem_cons_of_mem))); have hgz : gs < wz4.heap.size := ((H.ok (rStr (some ⟨gs, 0, none⟩) d1 ps) (by repeat (first | (with_reducible exact List.mem_cons_self) | (with_reducible apply List.mem_cons_of_mem)))).lt gs rfl).2; have hgy : ¬ gs = wz4.heap.size ∧ ¬ wz4.heap.size = gs := by omega))
            all_goals
              go_wp2_with fail
              go_meet
              refine ⟨_, x4, rfl, Hp.sel (by repeat (first | (with_reducible exact H) | (with_reducible apply Hp.alloc) | (with_reducible apply Hp.set) | (with_reducible apply Hp.drew) | (with_reducible apply Hp.drewN) | (with_reducible apply Hp.bytesW) | (with_reducible exact Upd.here) | (with_reducible exact Upd.hereR) | (with_reducible apply Upd.there) | (with_reducible apply Sz.alloc) | (with_reducible apply Sz.set) | (with_reducible apply Sz.drew) | (with_reducible apply Sz.drewN) | (with_reducible apply Sz.bytesW) | (with_reducible assumption) | (with_reducible exact Sz.base _))) ?_⟩
              (try simp only [List.cons_append, List.nil_append, List.set_cons_zero, List.set_cons_succ]); (repeat (first | (with_reducible exact Sel.nil) | (with_reducible apply Sel.cons) | (with_reducible exact Del.here) | (with_reducible apply Del.there))); (try (refine Sel.tl ?_; (repeat (first | (with_reducible exact Tl.here) | (with_reducible apply Tl.there)))))
          case rest =>
          clear H HP F c0 hgs hgt
          obtain ⟨at0, fx, rfl, H⟩ := hcut
          simp only [List.cons_append, List.nil_append] at H
          have F := H.facts; simp only [Facts, NeF, box, row, reg, cellsF, rByte, rStr, ne_eq, true_and, and_true, Nat.reduceAdd, Nat.zero_add] at F
          go_wp2_with fail
          refine (l01Below_hp b A n c bs w _ _ _ (by repeat (first | (with_reducible exact H) | (with_reducible apply Hp.alloc) | (with_reducible apply Hp.set) | (with_reducible apply Hp.drew) | (with_reducible apply Hp.drewN) | (with_reducible apply Hp.bytesW) | (with_reducible exact Upd.here) | (with_reducible exact Upd.hereR) | (with_reducible apply Upd.there) | (with_reducible apply Sz.alloc) | (with_reducible apply Sz.set) | (with_reducible apply Sz.drew) | (with_reducible apply Sz.drewN) | (with_reducible apply Sz.bytesW) | (with_reducible assumption) | (with_reducible exact Sz.base _))) (by repeat (first | (with_reducible exact hm) | (with_reducible exact List.mem_cons_self) | (with_reducible apply List.mem_cons_of_mem))) hr hn (by omega) (by omega)).mono ?_
          rintro e wa ⟨xa, rfl, hxa, Ha⟩
          replace H := Ha; clear Ha; (try simp only [List.set_cons_zero, List.set_cons_succ, List.cons_append, List.nil_append] at H); (try clear F); have F := H.facts; simp only [Facts, NeF, box, row, reg, cellsF, rByte, rStr, ne_eq, true_and, and_true, Nat.reduceAdd, Nat.zero_add] at F
          go_wp2_with fail
          refine (l01Once_hp b A n c bs w _ _ _ (by repeat (first | (with_reducible exact H) | (with_reducible apply Hp.alloc) | (with_reducible apply Hp.set) | (with_reducible apply Hp.drew) | (with_reducible apply Hp.drewN) | (with_reducible apply Hp.bytesW) | (with_reducible exact Upd.here) | (with_reducible exact Upd.hereR) | (with_reducible apply Upd.there) | (with_reducible apply Sz.alloc) | (with_reducible apply Sz.set) | (with_reducible apply Sz.drew) | (with_reducible apply Sz.drewN) | (with_reducible apply Sz.bytesW) | (with_reducible assumption) | (with_reducible exact Sz.base _))) (by repeat (first | (with_reducible exact hm) | (with_reducible exact List.mem_cons_self) | (with_reducible apply List.mem_cons_of_mem))) hr hn (by omega) (by omega)).mono ?_
          rintro e wc ⟨xc, rfl, Hc⟩
          replace H := Hc; clear Hc; (try simp only [List.set_cons_zero, List.set_cons_succ, List.cons_append, List.nil_append] at H); (try clear F); have F := H.facts; simp only [Facts, NeF, box, row, reg, cellsF, rByte, rStr, ne_eq, true_and, and_true, Nat.reduceAdd, Nat.zero_add] at F
          obtain ⟨M0, hM0⟩ := Int.eq_ofNat_of_zero_le (show 0 ≤ 1 + xa by omega)
          have hwm : IntKind.i64.wrap (1 + xa) = (M0 : Int) := by rw [IntKind.wrap_i64]; omega
          have hM1 : 1 ≤ M0 ∧ M0 ≤ 4 := by omega
          have HM0 := Lib.hid hM0
          clear hM0 hxa
          go_upto_if 46 with fail
          go_cut [11] (fun s11 wc => ∃ M : Nat, s11 = .int .i64 M ∧ (1 ≤ M ∧ M ≤ 8) ∧ Hp w wc ([box at0 62 [.string p, .int .i64 fx, .slice none 0 0], row 62 3 (.slice A2 es.length d2) es.length (es.flatMap encEntry), box (v.heap.size + 1) 26 [.slice A2 es.length d2], rStr (some ⟨gs, 0, none⟩) d1 ps, box v.heap.size 26 [.slice none 0 0]] ++ (es.flatMap entF ++ L)))
          case first =>
            cases xc with
            | true =>
              go_wp2_with fail
              go_meet
              exact ⟨8, rfl, by omega, Hp.sel (by repeat (first | (with_reducible exact H) | (with_reducible apply Hp.alloc) | (with_reducible apply Hp.set) | (with_reducible apply Hp.drew) | (with_reducible apply Hp.drewN) | (with_reducible apply Hp.bytesW) | (with_reducible exact Upd.here) | (with_reducible exact Upd.hereR) | (with_reducible apply Upd.there) | (with_reducible apply Sz.alloc) | (with_reducible apply Sz.set) | (with_reducible apply Sz.drew) | (with_reducible apply Sz.drewN) | (with_reducible apply Sz.bytesW) | (with_reducible assumption) | (with_reducible exact Sz.base _))) (by (try simp only [List.cons_append, List.nil_append, List.set_cons_zero, List.set_cons_succ]); (repeat (first | (with_reducible exact Sel.nil) | (with_reducible apply Sel.cons) | (with_reducible exact Del.here) | (with_reducible apply Del.there))); (try (refine Sel.tl ?_; (repeat (first | (with_reducible exact Tl.here) | (with_reducible apply Tl.there))))))⟩
            | false =>
              go_wp2_with fail
              go_meet
              exact ⟨M0, by rw [HM0.out], by omega, Hp.sel (by repeat (first | (with_reducible exact H) | (with_reducible apply Hp.alloc) | (with_reducible apply Hp.set) | (with_reducible apply Hp.drew) | (with_reducible apply Hp.drewN) | (with_reducible apply Hp.bytesW) | (with_reducible exact Upd.here) | (with_reducible exact Upd.hereR) | (with_reducible apply Upd.there) | (with_reducible apply Sz.alloc) | (with_reducible apply Sz.set) | (with_reducible apply Sz.drew) | (with_reducible apply Sz.drewN) | (with_reducible apply Sz.bytesW) | (with_reducible assumption) | (with_reducible exact Sz.base _))) (by (try simp only [List.cons_append, List.nil_append, List.set_cons_zero, List.set_cons_succ]); (repeat (first | (with_reducible exact Sel.nil) | (with_reducible apply Sel.cons) | (with_reducible exact Del.here) | (with_reducible apply Del.there))); (try (refine Sel.tl ?_; (repeat (first | (with_reducible exact Tl.here) | (with_reducible apply Tl.there))))))⟩
          case rest =>
          clear H F hM1
          obtain ⟨M, rfl, hM, H⟩ := hcut
          simp only [List.cons_append, List.nil_append] at H
          have F := H.facts; simp only [Facts, NeF, box, row, reg, cellsF, rByte, rStr, ne_eq, true_and, and_true, Nat.reduceAdd, Nat.zero_add] at F
          go_wp2_with fail
          have HH := Lib.hid H; clear H
          go_loopw [12] (fun j wr => ∃ k : Nat, k ≤ M ∧ j = .int .i64 k ∧ ∃ (A3 : Option Addr) (d3 : Nat) (vs : List Ver), Hid (vs.length = k ∧ ∀ x ∈ vs, x.data.length ≤ 6) ∧ Hid (Hp w wr ([row 71 4 (.slice A3 vs.length d3) vs.length (vs.flatMap encVer), box at0 62 [.string p, .int .i64 fx, .slice A3 vs.length d3], row 62 3 (.slice A2 es.length d2) es.length (es.flatMap encEntry), box (v.heap.size + 1) 26 [.slice A2 es.length d2], rStr (some ⟨gs, 0, none⟩) d1 ps, box v.heap.size 26 [.slice none 0 0]] ++ (vs.flatMap verF ++ (es.flatMap entF ++ L))))) (fun j _ => M - (intOf j).toNat)
          case atStart =>
            have H := HH.out
            exact ⟨0, Nat.zero_le _, rfl, none, 0, [], ⟨rfl, fun u hu => (by cases hu)⟩, Lib.hid (Hp.into (by repeat (first | (with_reducible exact H) | (with_reducible apply Hp.alloc) | (with_reducible apply Hp.set) | (with_reducible apply Hp.drew) | (with_reducible apply Hp.drewN) | (with_reducible apply Hp.bytesW) | (with_reducible exact Upd.here) | (with_reducible exact Upd.hereR) | (with_reducible apply Upd.there) | (with_reducible apply Sz.alloc) | (with_reducible apply Sz.set) | (with_reducible apply Sz.drew) | (with_reducible apply Sz.drewN) | (with_reducible apply Sz.bytesW) | (with_reducible assumption) | (with_reducible exact Sz.base _))) fun H1 => Hp.sel (Hp.cons_nilRow H1 71 4) (by
              show Sel _ (row 71 4 (.slice none 0 0) 0 [] :: box at0 62 [.string p, .int .i64 fx, .slice none 0 0] :: row 62 3 (.slice A2 es.length d2) es.length (es.flatMap encEntry) :: box (v.heap.size + 1) 26 [.slice A2 es.length d2] :: rStr (some ⟨gs, 0, none⟩) d1 ps :: box v.heap.size 26 [.slice none 0 0] :: (es.flatMap entF ++ L))
              (try simp only [List.cons_append, List.nil_append, List.set_cons_zero, List.set_cons_succ]); (repeat (first | (with_reducible exact Sel.nil) | (with_reducible apply Sel.cons) | (with_reducible exact Del.here) | (with_reducible apply Del.there))); (try (refine Sel.tl ?_; (repeat (first | (with_reducible exact Tl.here) | (with_reducible apply Tl.there)))))))⟩
          case round =>
            clear HH F
            obtain ⟨j, hj, rfl, A3, d3, vs, HVS, HP⟩ := hrel
            have H := HP.out
            simp only [List.cons_append, List.nil_append] at H
            have F := H.facts; simp only [Facts, NeF, box, row, reg, cellsF, rByte, rStr, ne_eq, true_and, and_true, Nat.reduceAdd, Nat.zero_add] at F
            have hv9 := HVS.out.1
            by_cases hjt : j < M
            · have hj1 : (j : Int) < (M : Int) := by omega
              have HJ1 : Hid (j + 1 ≤ M ∧ M - (j + 1) < M - j) := ⟨by omega, by omega⟩
              have hl3 : vs.length + 1 ≤ maxLen := by unfold maxLen; omega
              have hvl : vs.length ≤ 8 := by omega
              have hm := List.mem_append_right (vs.flatMap verF) hm
              clear hv9 hjt
              go_wp2_with fail
              go_region_law (first | (go_simp; go_at_call 84; refine (l10DrawVersion_hp b A n c bs w _ _ (by repeat (first | (with_reducible exact H) | (with_reducible apply Hp.alloc) | (with_reducible apply Hp.set) | (with_reducible apply Hp.drew) | (with_reducible apply Hp.drewN) | (with_reducible apply Hp.bytesW) | (with_reducible exact Upd.here) | (with_reducible exact Upd.hereR) | (with_reducible apply Upd.there) | (with_reducible apply Sz.alloc) | (with_reducible apply Sz.set) | (with_reducible apply Sz.drew) | (with_reducible apply Sz.drewN) | (with_reducible apply Sz.bytesW) | (with_reducible assumption) | (with_reducible exact Sz.base _))) (by repeat (first | (with_reducible exact hm) | (with_reducible exact List.mem_cons_self) | (with_reducible apply List.mem_cons_of_mem))) hr hn).mono ?_; rintro e wz5 ⟨⟨data, da, dc, made, gone, dead⟩, rfl, hdat, H5⟩; (try dsimp only at hdat H5 ⊢); replace H := H5; clear H5 F; have F := H.facts; simp only [Facts, NeF, box, row, reg, cellsF, rByte, rStr, ne_eq, true_and, and_true, Nat.reduceAdd, Nat.zero_add] at F) | (refine step_append_lies _ (by rfl) _ _ 60 (by rfl) w.heap.size 71 j0 _ 4 _ Tryd.underlying60 hj0 hy0 hy1 hy2 (by rfl) (by decide) (.slice A3 (vs.length) d3) (vs.length) _ (by rfl) (Hp.rowM (by repeat (first | (with_reducible exact H) | (with_reducible apply Hp.alloc) | (with_reducible apply Hp.set) | (with_reducible apply Hp.drew) | (with_reducible apply Hp.drewN) | (with_reducible apply Hp.bytesW) | (with_reducible exact Upd.here) | (with_reducible exact Upd.hereR) | (with_reducible apply Upd.there) | (with_reducible apply Sz.alloc) | (with_reducible apply Sz.set) | (with_reducible apply Sz.drew) | (with_reducible apply Sz.drewN) | (with_reducible apply Sz.bytesW) | (with_reducible assumption) | (with_reducible exact Sz.base _))) (by repeat (first | (with_reducible exact List.mem_cons_self) | (with_reducible apply List.mem_cons_of_mem)))) ⟨wz5.heap.size, 0, none⟩ 1 1 (encVer ⟨data, da, dc, made, gone, dead⟩) (by rfl) (by rfl) (Hp.news (by repeat (first | (with_reducible exact H) | (with_reducible apply Hp.alloc) | (with_reducible apply Hp.set) | (with_reducible apply Hp.drew) | (with_reducible apply Hp.drewN) | (with_reducible apply Hp.bytesW) | (with_reducible exact Upd.here) | (with_reducible exact Upd.hereR) | (with_reducible apply Upd.there) | (with_reducible apply Sz.alloc) | (with_reducible apply Sz.set) | (with_reducible apply Sz.drew) | (with_reducible apply Sz.drewN) | (with_reducible apply Sz.bytesW) | (with_reducible assumption) | (with_reducible exact Sz.base _))) 0 (by rfl)) (oneVer ⟨data, da, dc, made, gone, dead⟩) (by decide) hl3 (by omega) (Hp.b (by repeat (first | (with_reducible exact H) | (with_reducible apply Hp.alloc) | (with_reducible apply Hp.set) | (with_reducible apply Hp.drew) | (with_reducible apply Hp.drewN) | (with_reducible apply Hp.bytesW) | (with_reducible exact Upd.here) | (with_reducible exact Upd.hereR) | (with_reducible apply Upd.there) | (with_reducible apply Sz.alloc) | (with_reducible apply Sz.set) | (with_reducible apply Sz.drew) | (with_reducible apply Sz.drewN) | (with_reducible apply Sz.bytesW) | (with_reducible assumption) | (with_reducible exact Sz.base _)))).size _ rfl ?_; intro g cap wa hown hgrow hat hlt1; have H6 := Hp.appM (by repeat (first | (with_reducible exact H) | (with_reducible apply Hp.alloc) | (with_reducible apply Hp.set) | (with_reducible apply Hp.drew) | (with_reducible apply Hp.drewN) | (with_reducible apply Hp.bytesW) | (with_reducible exact Upd.here) | (with_reducible exact Upd.hereR) | (with_reducible apply Upd.there) | (with_reducible apply Sz.alloc) | (with_reducible apply Sz.set) | (with_reducible apply Sz.drew) | (with_reducible apply Sz.drewN) | (with_reducible apply Sz.bytesW) | (with_reducible assumption) | (with_reducible exact Sz.base _))) (by repeat (first | (with_reducible exact Rep.here) | (with_reducible apply Rep.there))) hown hgrow hat rfl hlt1; (try simp only [List.set_cons_zero, List.set_cons_succ, List.cons_append, List.nil_append] at H6); have FA := H6.facts; simp only [Facts, NeF, box, row, reg, cellsF, rByte, rStr, ne_eq, true_and, and_true, Nat.reduceAdd, Nat.zero_add] at FA))
              all_goals
                go_wp2_with fail
                go_roundw
                case rel =>
                  refine ⟨j + 1, HJ1.out.1, by go_num, some ⟨g, 0, none⟩, cap, vs ++ [(⟨data, da, dc, made, gone, dead⟩ : Ver)], ⟨by rw [List.length_append, HVS.out.1]; rfl, fun x hx => ?_⟩, Lib.hid ?_⟩
                  · rcases List.mem_append.1 hx with hx | hx
                    · exact HVS.out.2 x hx
                    · rw [List.mem_singleton.1 hx]; exact hdat
                  · have e1 : (vs ++ [(⟨data, da, dc, made, gone, dead⟩ : Ver)]).flatMap encVer = vs.flatMap encVer ++ encVer ⟨data, da, dc, made, gone, dead⟩ := by simp
                    have e2 : (vs ++ [(⟨data, da, dc, made, gone, dead⟩ : Ver)]).flatMap verF = vs.flatMap verF ++ [rByte da dc data] := by simp [verF]
                    rw [e1, e2, List.length_append, List.length_singleton]
                    refine Hp.perm (Hp.sel (R := [row 71 4 (.slice (some ⟨g, 0, none⟩) (vs.length + 1) cap) (vs.length + 1) (vs.flatMap encVer ++ encVer ⟨data, da, dc, made, gone, dead⟩), box at0 62 [.string p, .int .i64 fx, .slice (some ⟨g, 0, none⟩) (vs.length + 1) cap], row 62 3 (.slice A2 es.length d2) es.length (es.flatMap encEntry), box (v.heap.size + 1) 26 [.slice A2 es.length d2], rStr (some ⟨gs, 0, none⟩) d1 ps, box v.heap.size 26 [.slice none 0 0], rByte da dc data] ++ (vs.flatMap verF ++ (es.flatMap entF ++ L))) (by repeat (first | (with_reducible exact H6) | (with_reducible apply Hp.alloc) | (with_reducible apply Hp.set) | (with_reducible apply Hp.drew) | (with_reducible apply Hp.drewN) | (with_reducible apply Hp.bytesW) | (with_reducible exact Upd.here) | (with_reducible exact Upd.hereR) | (with_reducible apply Upd.there) | (with_reducible apply Sz.alloc) | (with_reducible apply Sz.set) | (with_reducible apply Sz.drew) | (with_reducible apply Sz.drewN) | (with_reducible apply Sz.bytesW) | (with_reducible assumption) | (with_reducible exact Sz.base _))) ?_) ?_
                    · (try simp only [List.set_cons_zero, List.set_cons_succ])
                      (try simp only [List.cons_append, List.nil_append, List.set_cons_zero, List.set_cons_succ]); (repeat (first | (with_reducible exact Sel.nil) | (with_reducible apply Sel.cons) | (with_reducible exact Del.here) | (with_reducible apply Del.there))); (try (refine Sel.tl ?_; (repeat (first | (with_reducible exact Tl.here) | (with_reducible apply Tl.there)))))
                    · rw [List.append_assoc]
                      exact permM
                case measure => have := HJ1.out.2; simp [intOf]; omega
            · have hjn : j = M := by omega
              have hj1 : ¬ (j : Int) < (M : Int) := by omega
              have HVL : Hid (1 ≤ vs.length ∧ vs.length ≤ 8) := by show _ ∧ _; omega
              have HEL : Hid (es.length ≤ 14) := by show _ ≤ _; have := HES.out.1; have := HLT.out; have := HP14.out; omega
              have hl3 : es.length + 1 ≤ maxLen := by unfold maxLen; have := HEL.out; omega
              have hel := HEL.out
              clear hjn hv9 hjt hM
              have hp14 := HP14.out
              have hlt9 := HLT.out
              go_wp2_with (at_builtin; refine wpList_append_lies _ (by rfl) _ _ 24 (by rfl) w.heap.size 62 i0 _ 3 _ Tryd.underlying24 hi0 hz0 hz1 hz2 (by rfl) (by decide) (.slice A2 (es.length) d2) (es.length) _ (by rfl) (Hp.rowM (by repeat (first | (with_reducible exact H) | (with_reducible apply Hp.alloc) | (with_reducible apply Hp.set) | (with_reducible apply Hp.drew) | (with_reducible apply Hp.drewN) | (with_reducible apply Hp.bytesW) | (with_reducible exact Upd.here) | (with_reducible exact Upd.hereR) | (with_reducible apply Upd.there) | (with_reducible apply Sz.alloc) | (with_reducible apply Sz.set) | (with_reducible apply Sz.drew) | (with_reducible apply Sz.drewN) | (with_reducible apply Sz.bytesW) | (with_reducible assumption) | (with_reducible exact Sz.base _))) (by repeat (first | (with_reducible exact List.mem_cons_self) | (with_reducible apply List.mem_cons_of_mem)))) ⟨wr.heap.size, 0, none⟩ 1 1 (encEntry ⟨p, fx, vs, A3, d3⟩) (by rfl) (by rfl) (Hp.news (by repeat (first | (with_reducible exact H) | (with_reducible apply Hp.alloc) | (with_reducible apply Hp.set) | (with_reducible apply Hp.drew) | (with_reducible apply Hp.drewN) | (with_reducible apply Hp.bytesW) | (with_reducible exact Upd.here) | (with_reducible exact Upd.hereR) | (with_reducible apply Upd.there) | (with_reducible apply Sz.alloc) | (with_reducible apply Sz.set) | (with_reducible apply Sz.drew) | (with_reducible apply Sz.drewN) | (with_reducible apply Sz.bytesW) | (with_reducible assumption) | (with_reducible exact Sz.base _))) 0 (by rfl)) (oneEntry ⟨p, fx, vs, A3, d3⟩) (by decide) hl3 (by omega) (Hp.b (by repeat (first | (with_reducible exact H) | (with_reducible apply Hp.alloc) | (with_reducible apply Hp.set) | (with_reducible apply Hp.drew) | (with_reducible apply Hp.drewN) | (with_reducible apply Hp.bytesW) | (with_reducible exact Upd.here) | (with_reducible exact Upd.hereR) | (with_reducible apply Upd.there) | (with_reducible apply Sz.alloc) | (with_reducible apply Sz.set) | (with_reducible apply Sz.drew) | (with_reducible apply Sz.drewN) | (with_reducible apply Sz.bytesW) | (with_reducible assumption) | (with_reducible exact Sz.base _)))).size _ rfl ?_; intro g cap wa hown hgrow hat hlt1; have H5 := Hp.appM (by repeat (first | (with_reducible exact H) | (with_reducible apply Hp.alloc) | (with_reducible apply Hp.set) | (with_reducible apply Hp.drew) | (with_reducible apply Hp.drewN) | (with_reducible apply Hp.bytesW) | (with_reducible exact Upd.here) | (with_reducible exact Upd.hereR) | (with_reducible apply Upd.there) | (with_reducible apply Sz.alloc) | (with_reducible apply Sz.set) | (with_reducible apply Sz.drew) | (with_reducible apply Sz.drewN) | (with_reducible apply Sz.bytesW) | (with_reducible assumption) | (with_reducible exact Sz.base _))) (by repeat (first | (with_reducible exact Rep.here) | (with_reducible apply Rep.there))) hown hgrow hat rfl hlt1; (try simp only [List.set_cons_zero, List.set_cons_succ, List.cons_append, List.nil_append] at H5); have FA := H5.facts; simp only [Facts, NeF, box, row, reg, cellsF, rByte, rStr, ne_eq, true_and, and_true, Nat.reduceAdd, Nat.zero_add] at FA)
              go_roundw
              case rel =>
                refine ⟨k + 1, HK1.out.1, by go_num, some ⟨g, 0, none⟩, cap, es ++ [(⟨p, fx, vs, A3, d3⟩ : Entry)], ⟨by rw [List.length_append, HES.out.1]; rfl, fun u hu => ?_⟩, Lib.hid ?_⟩
                · rcases List.mem_append.1 hu with hu | hu
                  · exact HES.out.2 u hu
                  · rw [List.mem_singleton.1 hu]; exact ⟨hpp, HVL.out, HVS.out.2⟩
                · have e1 : (es ++ [(⟨p, fx, vs, A3, d3⟩ : Entry)]).flatMap encEntry = es.flatMap encEntry ++ encEntry ⟨p, fx, vs, A3, d3⟩ := by simp
                  have e2 : (es ++ [(⟨p, fx, vs, A3, d3⟩ : Entry)]).flatMap entF = es.flatMap entF ++ (row 71 4 (.slice A3 vs.length d3) vs.length (vs.flatMap encVer) :: vs.flatMap verF) := by simp [entF, versE]
                  rw [e1, e2, List.length_append, List.length_singleton]
                  refine Hp.perm (Hp.sel (R := [row 62 3 (.slice (some ⟨g, 0, none⟩) (es.length + 1) cap) (es.length + 1) (es.flatMap encEntry ++ encEntry ⟨p, fx, vs, A3, d3⟩), box (v.heap.size + 1) 26 [.slice (some ⟨g, 0, none⟩) (es.length + 1) cap], rStr (some ⟨gs, 0, none⟩) d1 ps, box v.heap.size 26 [.slice none 0 0]] ++ (row 71 4 (.slice A3 vs.length d3) vs.length (vs.flatMap encVer) :: (vs.flatMap verF ++ (es.flatMap entF ++ L)))) (by repeat (first | (with_reducible exact H5) | (with_reducible apply Hp.alloc) | (with_reducible apply Hp.set) | (with_reducible apply Hp.drew) | (with_reducible apply Hp.drewN) | (with_reducible apply Hp.bytesW) | (with_reducible exact Upd.here) | (with_reducible exact Upd.hereR) | (with_reducible apply Upd.there) | (with_reducible apply Sz.alloc) | (with_reducible apply Sz.set) | (with_reducible apply Sz.drew) | (with_reducible apply Sz.drewN) | (with_reducible apply Sz.bytesW) | (with_reducible assumption) | (with_reducible exact Sz.base _))) ?_) ?_
                  · (try simp only [List.cons_append, List.nil_append, List.set_cons_zero, List.set_cons_succ]); (repeat (first | (with_reducible exact Sel.nil) | (with_reducible apply Sel.cons) | (with_reducible exact Del.here) | (with_reducible apply Del.there))); (try (refine Sel.tl ?_; (repeat (first | (with_reducible exact Tl.here) | (with_reducible apply Tl.there)))))
                  · exact permE.symm
              case measure => have := HK1.out.2; simp [intOf]; omega
        · have hkn : k = ps.length := by omega
          have hk1 : ¬ (k : Int) < (ps.length : Int) := by omega
          have HEL : Hid (es.length ≤ 14 ∧ ∀ u ∈ es, EntD u) := ⟨by have := HES.out.1; have := HP14.out; omega, HES.out.2⟩
          clear hkn hlt HES
          go_wp2_with fail
          have hm0 := hm
          have hm := List.mem_append_right (es.flatMap entF) hm0
          refine (l01Once_hp b A n c bs w _ _ _ (by repeat (first | (with_reducible exact H) | (with_reducible apply Hp.alloc) | (with_reducible apply Hp.set) | (with_reducible apply Hp.drew) | (with_reducible apply Hp.drewN) | (with_reducible apply Hp.bytesW) | (with_reducible exact Upd.here) | (with_reducible exact Upd.hereR) | (with_reducible apply Upd.there) | (with_reducible apply Sz.alloc) | (with_reducible apply Sz.set) | (with_reducible apply Sz.drew) | (with_reducible apply Sz.drewN) | (with_reducible apply Sz.bytesW) | (with_reducible assumption) | (with_reducible exact Sz.base _))) (by repeat (first | (with_reducible exact hm) | (with_reducible exact List.mem_cons_self) | (with_reducible apply List.mem_cons_of_mem))) hr hn (by omega) (by omega)).mono ?_
          rintro e wo ⟨xo, rfl, Ho⟩
          replace H := Ho; clear Ho; (try simp only [List.set_cons_zero, List.set_cons_succ, List.cons_append, List.nil_append] at H); (try clear F); have F := H.facts; simp only [Facts, NeF, box, row, reg, cellsF, rByte, rStr, ne_eq, true_and, and_true, Nat.reduceAdd, Nat.zero_add] at F
          have HFIN : Hid (∀ (W : World) (B C D : Ent), Hp w W (row 62 3 (.slice A2 es.length d2) es.length (es.flatMap encEntry) :: B :: C :: D :: (es.flatMap entF ++ L)) → Hp w W (stoE A2 d2 es.length es :: L)) := fun W B C D h => by
            refine (Hp.pack L (stoR A2 d2 es.length es) (h.sel ⟨[B, C, D], ?_⟩)).perm (List.perm_append_singleton _ _).symm
            show List.Perm ((L ++ (row 62 3 (.slice A2 es.length d2) es.length (es.flatMap encEntry) :: es.flatMap entF)) ++ [B, C, D]) _
            generalize row 62 3 (.slice A2 es.length d2) es.length (es.flatMap encEntry) = a
            generalize es.flatMap entF = X
            letI : DecidableEq Ent := fun a b => Classical.propDecidable (a = b)
            rw [List.perm_iff_count]
            intro e
            simp only [List.count_append, List.count_cons, List.count_nil]
            omega
          have HSD : Hid (StoD es) := ⟨by have := HEL.out.1; omega, fun u hu => ⟨(HEL.out.2 u hu).1, (HEL.out.2 u hu).2.1.2, (HEL.out.2 u hu).2.2⟩⟩
          by_cases hq : 0 < es.length
          · have hqi : (0 : Int) < (es.length : Int) := by omega
            cases xo with
            | false =>
              go_wp2_with fail
              refine bodyPost_ret (v := .agg #[.slice A2 es.length d2]) (by simp [results, Tryd.results61, go_sem, F] <;> omega) rfl ⟨A2, d2, es, rfl, HSD.out, HFIN.out _ _ _ _ (by repeat (first | (with_reducible exact H) | (with_reducible apply Hp.alloc) | (with_reducible apply Hp.set) | (with_reducible apply Hp.drew) | (with_reducible apply Hp.drewN) | (with_reducible apply Hp.bytesW) | (with_reducible exact Upd.here) | (with_reducible exact Upd.hereR) | (with_reducible apply Upd.there) | (with_reducible apply Sz.alloc) | (with_reducible apply Sz.set) | (with_reducible apply Sz.drew) | (with_reducible apply Sz.drewN) | (with_reducible apply Sz.bytesW) | (with_reducible assumption) | (with_reducible exact Sz.base _)))⟩
            | true =>
              go_wp2_with fail
              have hel9 := HEL.out.1
              refine (l01Below_hp b A n c bs w _ _ _ (by repeat (first | (with_reducible exact H) | (with_reducible apply Hp.alloc) | (with_reducible apply Hp.set) | (with_reducible apply Hp.drew) | (with_reducible apply Hp.drewN) | (with_reducible apply Hp.bytesW) | (with_reducible exact Upd.here) | (with_reducible exact Upd.hereR) | (with_reducible apply Upd.there) | (with_reducible apply Sz.alloc) | (with_reducible apply Sz.set) | (with_reducible apply Sz.drew) | (with_reducible apply Sz.drewN) | (with_reducible apply Sz.bytesW) | (with_reducible assumption) | (with_reducible exact Sz.base _))) (by repeat (first | (with_reducible exact hm) | (with_reducible exact List.mem_cons_self) | (with_reducible apply List.mem_cons_of_mem))) hr hn (by omega) (by omega)).mono ?_
              rintro e wi ⟨xi, rfl, hxi, Hi⟩
              replace H := Hi; clear Hi; (try simp only [List.set_cons_zero, List.set_cons_succ, List.cons_append, List.nil_append] at H); (try clear F); have F := H.facts; simp only [Facts, NeF, box, row, reg, cellsF, rByte, rStr, ne_eq, true_and, and_true, Nat.reduceAdd, Nat.zero_add] at F
              obtain ⟨i, rfl⟩ := Int.eq_ofNat_of_zero_le hxi.1
              go_wp2_with fail
              refine (l01Below_hp b A n c bs w _ _ _ (by repeat (first | (with_reducible exact H) | (with_reducible apply Hp.alloc) | (with_reducible apply Hp.set) | (with_reducible apply Hp.drew) | (with_reducible apply Hp.drewN) | (with_reducible apply Hp.bytesW) | (with_reducible exact Upd.here) | (with_reducible exact Upd.hereR) | (with_reducible apply Upd.there) | (with_reducible apply Sz.alloc) | (with_reducible apply Sz.set) | (with_reducible apply Sz.drew) | (with_reducible apply Sz.drewN) | (with_reducible apply Sz.bytesW) | (with_reducible assumption) | (with_reducible exact Sz.base _))) (by repeat (first | (with_reducible exact hm) | (with_reducible exact List.mem_cons_self) | (with_reducible apply List.mem_cons_of_mem))) hr hn (by omega) (by omega)).mono ?_
              rintro e wk ⟨xk, rfl, hxk, Hk⟩
              replace H := Hk; clear Hk; (try simp only [List.set_cons_zero, List.set_cons_succ, List.cons_append, List.nil_append] at H); (try clear F); have F := H.facts; simp only [Facts, NeF, box, row, reg, cellsF, rByte, rStr, ne_eq, true_and, and_true, Nat.reduceAdd, Nat.zero_add] at F
              have hi : i < es.length := by omega
              have hi1 : (i : Int) < (es.length : Int) := by omega
              have hi0 : (0 : Int) ≤ (i : Int) := by omega
              have hee := HEL.out.2 es[i] (List.getElem_mem hi)
              obtain ⟨path, first, vs, va, vc, HEI⟩ : ∃ path first vs va vc, Hid (es[i] = ⟨path, first, vs, va, vc⟩) := ⟨_, _, _, _, _, Lib.hid rfl⟩
              rw [HEI.out] at hee
              obtain ⟨N', HO0, HC0⟩ := drawn_open (w0 := w) (A2 := A2) (d2 := d2) (L := L) hi HEI.out
              have HC := Lib.hid HC0; clear HC0
              have H2 := H.perm (HO0 [row 62 3 (.slice A2 es.length d2) es.length (es.flatMap encEntry), box (v.heap.size + 1) 26 [.slice A2 es.length d2], rStr A1 d1 ps, box v.heap.size 26 [.slice none 0 0]]).symm
              clear HO0 H
              have H := H2; clear H2
              simp only [List.cons_append, List.nil_append] at H
              obtain ⟨NN, HNN⟩ : ∃ NN, Hid (NN = vs.flatMap verF ++ (N' ++ L)) := ⟨_, rfl⟩
              rw [← HNN.out] at H
              have hm : curE b A n c ∈ NN := by rw [HNN.out]; exact List.mem_append_right _ (List.mem_append_right _ hm0)
              obtain ⟨hep, ⟨hv1, hv8⟩, hvd⟩ := hee
              dsimp only at hep hv1 hv8 hvd
              obtain ⟨g2, rfl⟩ := rowGm (H.rowM (t := 62) (k := 3) (v := .slice A2 es.length d2) (n := es.length) (xs := es.flatMap encEntry) (by repeat (first | (with_reducible exact List.mem_cons_self) | (with_reducible apply List.mem_cons_of_mem)))) hq
              obtain ⟨gv, rfl⟩ := rowGm (H.rowM (t := 71) (k := 4) (v := .slice va vs.length vc) (n := vs.length) (xs := vs.flatMap encVer) (by repeat (first | (with_reducible exact List.mem_cons_self) | (with_reducible apply List.mem_cons_of_mem)))) (by omega)
              have hrc : ∀ (W : World) (M : List Ent), Hp w W M → row 62 3 (.slice (some ⟨g2, 0, none⟩) es.length d2) es.length (es.flatMap encEntry) ∈ M → _ := fun W M h hmm => entCells (i := i) (e := ⟨path, first, vs, some ⟨gv, 0, none⟩, vc⟩) (h.rowM hmm) rfl (by rw [List.getElem?_eq_getElem hi, HEI.out])
              have HRC := Lib.hid hrc; clear hrc
              have HES : Hid (∀ e' : Entry, EntW e' → StoD (es.set i e')) := fun e' he' => ⟨by rw [List.length_set]; exact HSD.out.1, fun u hu => by
                rcases List.mem_or_eq_of_mem_set hu with hu | rfl
                · exact HSD.out.2 u hu
                · exact he'⟩
              clear F
              have F := H.facts; simp only [Facts, NeF, box, row, reg, cellsF, rByte, rStr, ne_eq, true_and, and_true, Nat.reduceAdd, Nat.zero_add] at F
              obtain ⟨d0, d1', d2', z0, z1, z2⟩ := HRC.out _ _ H (by repeat (first | (with_reducible exact List.mem_cons_self) | (with_reducible apply List.mem_cons_of_mem)))
              (try dsimp only at d0 d1' d2')
              have hn1 := Hp.ne_rowK H (f := v.heap.size + 1) (g := g2) (n := es.length) (c := d2) (m := es.length) (k := 3) (e := 62) (xs := es.flatMap encEntry) (by repeat (first | (with_reducible exact Sel.nil) | (with_reducible apply Sel.cons) | (with_reducible exact Del.here) | (with_reducible apply Del.there)))
              have hn2 := Hp.ne_rowK H (f := v.heap.size) (g := g2) (n := es.length) (c := d2) (m := es.length) (k := 3) (e := 62) (xs := es.flatMap encEntry) (by repeat (first | (with_reducible exact Sel.nil) | (with_reducible apply Sel.cons) | (with_reducible exact Del.here) | (with_reducible apply Del.there)))
              have hn3 := Hp.ne_rowK H (f := v.heap.size + 1) (g := gv) (n := vs.length) (c := vc) (m := vs.length) (k := 4) (e := 71) (xs := vs.flatMap encVer) (by repeat (first | (with_reducible exact Sel.nil) | (with_reducible apply Sel.cons) | (with_reducible exact Del.here) | (with_reducible apply Del.there)))
              have hn4 := Hp.ne_rowK H (f := v.heap.size) (g := gv) (n := vs.length) (c := vc) (m := vs.length) (k := 4) (e := 71) (xs := vs.flatMap encVer) (by repeat (first | (with_reducible exact Sel.nil) | (with_reducible apply Sel.cons) | (with_reducible exact Del.here) | (with_reducible apply Del.there)))
              have HVW : Hid (path.size ≤ 250 ∧ vs.length ≤ 8 ∧ ∀ x ∈ vs, x.data.length ≤ 6) := ⟨hep, hv8, hvd⟩
              clear hq hep hvd hxi
              rcases (show xk = 0 ∨ xk = 1 ∨ xk = 2 ∨ xk = 3 ∨ xk = 4 by omega) with rfl | rfl | rfl | rfl | rfl
              · go_wp2_with fail
                go_region_law (first | (go_simp; go_at_call 63; refine (l01DrawPath_hp b A n c bs w _ _ (by repeat (first | (with_reducible exact H) | (with_reducible apply Hp.alloc) | (with_reducible apply Hp.set) | (with_reducible apply Hp.drew) | (with_reducible apply Hp.drewN) | (with_reducible apply Hp.bytesW) | (with_reducible exact Upd.here) | (with_reducible exact Upd.hereR) | (with_reducible apply Upd.there) | (with_reducible apply Sz.alloc) | (with_reducible apply Sz.set) | (with_reducible apply Sz.drew) | (with_reducible apply Sz.drewN) | (with_reducible apply Sz.bytesW) | (with_reducible assumption) | (with_reducible exact Sz.base _))) (by repeat (first | (with_reducible exact hm) | (with_reducible exact List.mem_cons_self) | (with_reducible apply List.mem_cons_of_mem))) hr hn).mono ?_; rintro e wz6 ⟨px, rfl, hpx, H6⟩; replace H := H6; clear H6 F d0 d1' d2' z0 z1 z2; have F := H.facts; simp only [Facts, NeF, box, row, reg, cellsF, rByte, rStr, ne_eq, true_and, and_true, Nat.reduceAdd, Nat.zero_add] at F; have hce := HRC.out _ _ H (by repeat (first | (with_reducible exact List.mem_cons_self) | (with_reducible apply List.mem_cons_of_mem)))))
                all_goals
                  go_wp2_with fail
                  have HSE : Hid ((es.flatMap encEntry).set (i * 3) (.string px) = (es.set i ⟨px, first, vs, some ⟨gv, 0, none⟩, vc⟩).flatMap encEntry) := by
                    show _ = _
                    rw [flat_set1 (v := (⟨px, first, vs, some ⟨gv, 0, none⟩, vc⟩ : Entry)) encEntry_len hi (j := i * 3) (t := 0) rfl (by decide) (by rw [HEI.out]; rfl)]
                  refine bodyPost_ret (v := .agg #[.slice (some ⟨g2, 0, none⟩) es.length d2]) (by simp [results, Tryd.results61, go_sem, F] <;> omega) rfl ⟨some ⟨g2, 0, none⟩, d2, es.set i ⟨px, first, vs, some ⟨gv, 0, none⟩, vc⟩, by rw [List.length_set], HES.out _ ⟨hpx, HVW.out.2⟩, ?_⟩
                  rw [List.length_set]
                  refine HC.out _ _ (box (v.heap.size + 1) 26 [.slice (some ⟨g2, 0, none⟩) es.length d2]) (rStr A1 d1 ps) (box v.heap.size 26 [.slice (some ⟨g2, 0, none⟩) es.length d2]) (Hp.into (by repeat (first | (with_reducible exact H) | (with_reducible apply Hp.alloc) | (with_reducible apply Hp.set) | (with_reducible apply Hp.drew) | (with_reducible apply Hp.drewN) | (with_reducible apply Hp.bytesW) | (with_reducible exact Upd.here) | (with_reducible exact Upd.hereR) | (with_reducible apply Upd.there) | (with_reducible apply Sz.alloc) | (with_reducible apply Sz.set) | (with_reducible apply Sz.drew) | (with_reducible apply Sz.drewN) | (with_reducible apply Sz.bytesW) | (with_reducible assumption) | (with_reducible exact Sz.base _))) fun H9 => ?_)
                  (try simp only [List.set_cons_zero, List.set_cons_succ, List.cons_append, List.nil_append] at H9)
                  rw [← HSE.out]
                  show Hp w _ (_ :: _ :: _ :: _ :: (row 71 4 (.slice (some ⟨gv, 0, none⟩) vs.length vc) vs.length (vs.flatMap encVer) :: vs.flatMap verF) ++ (N' ++ L))
                  rw [HNN.out] at H9
                  exact H9
              · have hg2w : g2 < wk.heap.size := ((H.ok (row 62 3 (.slice (some ⟨g2, 0, none⟩) es.length d2) es.length (es.flatMap encEntry)) (by repeat (first | (with_reducible exact List.mem_cons_self) | (with_reducible apply List.mem_cons_of_mem)))).lt g2 rfl).2
                have hg2x : ¬ g2 = wk.heap.size ∧ ¬ wk.heap.size = g2 := by omega
                go_wp2_with fail
                go_region_law (first | (go_simp; go_at_call 29; refine (l01PickInt_t b A n c bs w _ _ _ _ _ (by repeat (first | (with_reducible exact H) | (with_reducible apply Hp.alloc) | (with_reducible apply Hp.set) | (with_reducible apply Hp.drew) | (with_reducible apply Hp.drewN) | (with_reducible apply Hp.bytesW) | (with_reducible exact Upd.here) | (with_reducible exact Upd.hereR) | (with_reducible apply Upd.there) | (with_reducible apply Sz.alloc) | (with_reducible apply Sz.set) | (with_reducible apply Sz.drew) | (with_reducible apply Sz.drewN) | (with_reducible apply Sz.bytesW) | (with_reducible assumption) | (with_reducible exact Sz.base _))) (by repeat (first | (with_reducible exact hm) | (with_reducible exact List.mem_cons_self) | (with_reducible apply List.mem_cons_of_mem))) (by repeat (first | (with_reducible exact List.mem_cons_self) | (with_reducible apply List.mem_cons_of_mem))) (by rfl) (by omega) (by omega) (by repeat (first | exact trivial | refine ⟨⟨_, rfl⟩, ?_⟩)) hr hn).mono ?_; rintro e wz4 ⟨fx, rfl, H4⟩; replace H := H4; clear H4; (try simp only [List.set_cons_zero, List.set_cons_succ, List.cons_append, List.nil_append] at H); clear F d0 d1' d2' z0 z1 z2; have F := H.facts; simp only [Facts, NeF, box, row, reg, cellsF, rByte, rStr, ne_eq, true_and, and_true, Nat.reduceAdd, Nat.zero_add] at F; have hce := HRC.out _ _ H (by repeat (first | (with_reducible exact List.mem_cons_self) | (with_reducible apply List.mem_cons_of_mem))); have hg2z : g2 < wz4.heap.size := ((H.ok (row 62 3 (.slice (some ⟨g2, 0, none⟩) es.length d2) es.length (es.flatMap encEntry)) (by repeat (first | (with_reducible exact List.mem_cons_self) | (with_reducible apply List.mem_cons_of_mem)))).lt g2 rfl).2; have hg2y : ¬ g2 = wz4.heap.size ∧ ¬ wz4.heap.size = g2 := by omega))
                all_goals
                  go_wp2_with fail
                  have HSE : Hid ((es.flatMap encEntry).set (i * 3 + 1) (.int .i64 fx) = (es.set i ⟨path, fx, vs, some ⟨gv, 0, none⟩, vc⟩).flatMap encEntry) := by
                    show _ = _
                    rw [flat_set1 (v := (⟨path, fx, vs, some ⟨gv, 0, none⟩, vc⟩ : Entry)) encEntry_len hi (t := 1) rfl (by decide) (by rw [HEI.out]; rfl)]
                  refine bodyPost_ret (v := .agg #[.slice (some ⟨g2, 0, none⟩) es.length d2]) (by simp [results, Tryd.results61, go_sem, F] <;> omega) rfl ⟨some ⟨g2, 0, none⟩, d2, es.set i ⟨path, fx, vs, some ⟨gv, 0, none⟩, vc⟩, by rw [List.length_set], HES.out _ HVW.out, ?_⟩
                  rw [List.length_set]
                  refine HC.out _ _ (box (v.heap.size + 1) 26 [.slice (some ⟨g2, 0, none⟩) es.length d2]) (rStr A1 d1 ps) (box v.heap.size 26 [.slice (some ⟨g2, 0, none⟩) es.length d2]) (Hp.into (by repeat (first | (with_reducible exact H) | (with_reducible apply Hp.alloc) | (with_reducible apply Hp.set) | (with_reducible apply Hp.drew) | (with_reducible apply Hp.drewN) | (with_reducible apply Hp.bytesW) | (with_reducible exact Upd.here) | (with_reducible exact Upd.hereR) | (with_reducible apply Upd.there) | (with_reducible apply Sz.alloc) | (with_reducible apply Sz.set) | (with_reducible apply Sz.drew) | (with_reducible apply Sz.drewN) | (with_reducible apply Sz.bytesW) | (with_reducible assumption) | (with_reducible exact Sz.base _))) fun H9 => ?_)
                  (try simp only [List.set_cons_zero, List.set_cons_succ, List.cons_append, List.nil_append] at H9)
                  rw [← HSE.out]
                  show Hp w _ (_ :: _ :: _ :: _ :: (row 71 4 (.slice (some ⟨gv, 0, none⟩) vs.length vc) vs.length (vs.flatMap encVer) :: vs.flatMap verF) ++ (N' ++ L))
                  rw [HNN.out] at H9
                  exact H9.tail1
              · go_wp2_with fail
                have HSE : Hid ((es.flatMap encEntry).set (i * 3 + 2) (.slice none 0 0) = (es.set i ⟨path, first, [], none, 0⟩).flatMap encEntry) := by
                  show _ = _
                  rw [flat_set1 (v := (⟨path, first, [], none, 0⟩ : Entry)) encEntry_len hi (t := 2) rfl (by decide) (by rw [HEI.out]; rfl)]
                refine bodyPost_ret (v := .agg #[.slice (some ⟨g2, 0, none⟩) es.length d2]) (by simp [results, Tryd.results61, go_sem, F] <;> omega) rfl ⟨some ⟨g2, 0, none⟩, d2, es.set i ⟨path, first, [], none, 0⟩, by rw [List.length_set], HES.out _ ⟨HVW.out.1, Nat.zero_le _, fun x hx => (by cases hx)⟩, ?_⟩
                rw [List.length_set]
                refine HC.out _ _ (box (v.heap.size + 1) 26 [.slice (some ⟨g2, 0, none⟩) es.length d2]) (rStr A1 d1 ps) (box v.heap.size 26 [.slice (some ⟨g2, 0, none⟩) es.length d2]) (Hp.into (by repeat (first | (with_reducible exact H) | (with_reducible apply Hp.alloc) | (with_reducible apply Hp.set) | (with_reducible apply Hp.drew) | (with_reducible apply Hp.drewN) | (with_reducible apply Hp.bytesW) | (with_reducible exact Upd.here) | (with_reducible exact Upd.hereR) | (with_reducible apply Upd.there) | (with_reducible apply Sz.alloc) | (with_reducible apply Sz.set) | (with_reducible apply Sz.drew) | (with_reducible apply Sz.drewN) | (with_reducible apply Sz.bytesW) | (with_reducible assumption) | (with_reducible exact Sz.base _))) fun H9 => ?_)
                (try simp only [List.set_cons_zero, List.set_cons_succ, List.cons_append, List.nil_append] at H9)
                rw [← HSE.out]
                rw [HNN.out] at H9
                exact nilV H9
              · obtain ⟨v0, tl, rfl⟩ : ∃ v0 tl, vs = v0 :: tl := by
                  cases vs with
                  | nil => simp at hv1
                  | cons a l => exact ⟨a, l, rfl⟩
                have hvi : (0 : Int) < ((v0 :: tl).length : Int) := by simp
                have hvc : ∀ (W : World) (M : List Ent), Hp w W M → row 71 4 (.slice (some ⟨gv, 0, none⟩) (v0 :: tl).length vc) (v0 :: tl).length ((v0 :: tl).flatMap encVer) ∈ M → W.cell? ⟨gv, 1, none⟩ = some (.int .i64 v0.made) ∧ W.cell? ⟨gv, 3, none⟩ = some (.bool v0.dead) ∧ W.frozen? ⟨gv, 1, none⟩ = false ∧ W.frozen? ⟨gv, 3, none⟩ = false := fun W M h hmm => by
                  have h9 := h.rowM hmm
                  exact ⟨own_at h9 (j := 1) rfl, own_at h9 (j := 3) rfl, h9.frozenAt 1, h9.frozenAt 3⟩
                have HVC := Lib.hid hvc; clear hvc
                obtain ⟨y1, y3, f1, f3⟩ := HVC.out _ _ H (by repeat (first | (with_reducible exact List.mem_cons_self) | (with_reducible apply List.mem_cons_of_mem)))
                go_wp2_with fail
                have HSE : Hid ((es.set i ⟨path, first, ⟨v0.data, v0.da, v0.dc, v0.made, v0.gone, true⟩ :: tl, some ⟨gv, 0, none⟩, vc⟩).flatMap encEntry = es.flatMap encEntry) := by
                  show _ = _
                  exact flat_same hi (by rw [HEI.out]; rfl)
                refine bodyPost_ret (v := .agg #[.slice (some ⟨g2, 0, none⟩) es.length d2]) (by simp [results, Tryd.results61, go_sem, F] <;> omega) rfl ⟨some ⟨g2, 0, none⟩, d2, es.set i ⟨path, first, ⟨v0.data, v0.da, v0.dc, v0.made, v0.gone, true⟩ :: tl, some ⟨gv, 0, none⟩, vc⟩, by rw [List.length_set], HES.out _ ⟨HVW.out.1, HVW.out.2.1, fun x hx => ?_⟩, ?_⟩
                · rcases List.mem_cons.1 hx with rfl | hx
                  · exact HVW.out.2.2 v0 List.mem_cons_self
                  · exact HVW.out.2.2 x (List.mem_cons_of_mem _ hx)
                rw [List.length_set]
                refine HC.out _ _ (box (v.heap.size + 1) 26 [.slice (some ⟨g2, 0, none⟩) es.length d2]) (rStr A1 d1 ps) (box v.heap.size 26 [.slice (some ⟨g2, 0, none⟩) es.length d2]) (Hp.into (by repeat (first | (with_reducible exact H) | (with_reducible apply Hp.alloc) | (with_reducible apply Hp.set) | (with_reducible apply Hp.drew) | (with_reducible apply Hp.drewN) | (with_reducible apply Hp.bytesW) | (with_reducible exact Upd.here) | (with_reducible exact Upd.hereR) | (with_reducible apply Upd.there) | (with_reducible apply Sz.alloc) | (with_reducible apply Sz.set) | (with_reducible apply Sz.drew) | (with_reducible apply Sz.drewN) | (with_reducible apply Sz.bytesW) | (with_reducible assumption) | (with_reducible exact Sz.base _))) fun H9 => ?_)
                (try simp only [List.set_cons_zero, List.set_cons_succ, List.cons_append, List.nil_append] at H9)
                rw [HSE.out]
                rw [HNN.out] at H9
                exact H9
              · obtain ⟨v0, tl, rfl⟩ : ∃ v0 tl, vs = v0 :: tl := by
                  cases vs with
                  | nil => simp at hv1
                  | cons a l => exact ⟨a, l, rfl⟩
                have hvi : (0 : Int) < ((v0 :: tl).length : Int) := by simp
                have hvc : ∀ (W : World) (M : List Ent), Hp w W M → row 71 4 (.slice (some ⟨gv, 0, none⟩) (v0 :: tl).length vc) (v0 :: tl).length ((v0 :: tl).flatMap encVer) ∈ M → W.cell? ⟨gv, 1, none⟩ = some (.int .i64 v0.made) ∧ W.cell? ⟨gv, 3, none⟩ = some (.bool v0.dead) ∧ W.frozen? ⟨gv, 1, none⟩ = false ∧ W.frozen? ⟨gv, 3, none⟩ = false := fun W M h hmm => by
                  have h9 := h.rowM hmm
                  exact ⟨own_at h9 (j := 1) rfl, own_at h9 (j := 3) rfl, h9.frozenAt 1, h9.frozenAt 3⟩
                have HVC := Lib.hid hvc; clear hvc
                obtain ⟨y1, y3, f1, f3⟩ := HVC.out _ _ H (by repeat (first | (with_reducible exact List.mem_cons_self) | (with_reducible apply List.mem_cons_of_mem)))
                have hg2w : g2 < wk.heap.size := ((H.ok (row 62 3 (.slice (some ⟨g2, 0, none⟩) es.length d2) es.length (es.flatMap encEntry)) (by repeat (first | (with_reducible exact List.mem_cons_self) | (with_reducible apply List.mem_cons_of_mem)))).lt g2 rfl).2
                have hg2x : ¬ g2 = wk.heap.size ∧ ¬ wk.heap.size = g2 := by omega
                have hgvw : gv < wk.heap.size := ((H.ok (row 71 4 (.slice (some ⟨gv, 0, none⟩) (v0 :: tl).length vc) (v0 :: tl).length ((v0 :: tl).flatMap encVer)) (by repeat (first | (with_reducible exact List.mem_cons_self) | (with_reducible apply List.mem_cons_of_mem)))).lt gv rfl).2
                have hgvx : ¬ gv = wk.heap.size ∧ ¬ wk.heap.size = gv := by omega
                go_wp2_with fail
                go_region_law (first | (go_simp; go_at_call 29; refine (l01PickInt_t b A n c bs w _ _ _ _ _ (by repeat (first | (with_reducible exact H) | (with_reducible apply Hp.alloc) | (with_reducible apply Hp.set) | (with_reducible apply Hp.drew) | (with_reducible apply Hp.drewN) | (with_reducible apply Hp.bytesW) | (with_reducible exact Upd.here) | (with_reducible exact Upd.hereR) | (with_reducible apply Upd.there) | (with_reducible apply Sz.alloc) | (with_reducible apply Sz.set) | (with_reducible apply Sz.drew) | (with_reducible apply Sz.drewN) | (with_reducible apply Sz.bytesW) | (with_reducible assumption) | (with_reducible exact Sz.base _))) (by repeat (first | (with_reducible exact hm) | (with_reducible exact List.mem_cons_self) | (with_reducible apply List.mem_cons_of_mem))) (by repeat (first | (with_reducible exact List.mem_cons_self) | (with_reducible apply List.mem_cons_of_mem))) (by rfl) (by omega) (by omega) (by repeat (first | exact trivial | refine ⟨⟨_, rfl⟩, ?_⟩)) hr hn).mono ?_; rintro e wz4 ⟨fx, rfl, H4⟩; replace H := H4; clear H4; (try simp only [List.set_cons_zero, List.set_cons_succ, List.cons_append, List.nil_append] at H); clear F d0 d1' d2' z0 z1 z2 y1 y3 f1 f3; have F := H.facts; simp only [Facts, NeF, box, row, reg, cellsF, rByte, rStr, ne_eq, true_and, and_true, Nat.reduceAdd, Nat.zero_add] at F; have hce := HRC.out _ _ H (by repeat (first | (with_reducible exact List.mem_cons_self) | (with_reducible apply List.mem_cons_of_mem))); have hcv := HVC.out _ _ H (by repeat (first | (with_reducible exact List.mem_cons_self) | (with_reducible apply List.mem_cons_of_mem)))))
                all_goals
                  go_wp2_with fail
                  have HSE : Hid ((es.set i ⟨path, first, ⟨v0.data, v0.da, v0.dc, fx, v0.gone, v0.dead⟩ :: tl, some ⟨gv, 0, none⟩, vc⟩).flatMap encEntry = es.flatMap encEntry) := by
                    show _ = _
                    exact flat_same hi (by rw [HEI.out]; rfl)
                  refine bodyPost_ret (v := .agg #[.slice (some ⟨g2, 0, none⟩) es.length d2]) (by simp [results, Tryd.results61, go_sem, F] <;> omega) rfl ⟨some ⟨g2, 0, none⟩, d2, es.set i ⟨path, first, ⟨v0.data, v0.da, v0.dc, fx, v0.gone, v0.dead⟩ :: tl, some ⟨gv, 0, none⟩, vc⟩, by rw [List.length_set], HES.out _ ⟨HVW.out.1, HVW.out.2.1, fun x hx => ?_⟩, ?_⟩
                  · rcases List.mem_cons.1 hx with rfl | hx
                    · exact HVW.out.2.2 v0 List.mem_cons_self
                    · exact HVW.out.2.2 x (List.mem_cons_of_mem _ hx)
                  rw [List.length_set]
                  refine HC.out _ _ (box (v.heap.size + 1) 26 [.slice (some ⟨g2, 0, none⟩) es.length d2]) (rStr A1 d1 ps) (box v.heap.size 26 [.slice (some ⟨g2, 0, none⟩) es.length d2]) (Hp.into (by repeat (first | (with_reducible exact H) | (with_reducible apply Hp.alloc) | (with_reducible apply Hp.set) | (with_reducible apply Hp.drew) | (with_reducible apply Hp.drewN) | (with_reducible apply Hp.bytesW) | (with_reducible exact Upd.here) | (with_reducible exact Upd.hereR) | (with_reducible apply Upd.there) | (with_reducible apply Sz.alloc) | (with_reducible apply Sz.set) | (with_reducible apply Sz.drew) | (with_reducible apply Sz.drewN) | (with_reducible apply Sz.bytesW) | (with_reducible assumption) | (with_reducible exact Sz.base _))) fun H9 => ?_)
                  (try simp only [List.set_cons_zero, List.set_cons_succ, List.cons_append, List.nil_append] at H9)
                  rw [HSE.out]
                  rw [HNN.out] at H9
                  exact H9.tail1
          · have hqi : (es.length : Int) ≤ 0 := by omega
            cases xo with
            | false =>
              go_wp2_with fail
              refine bodyPost_ret (v := .agg #[.slice A2 es.length d2]) (by simp [results, Tryd.results61, go_sem, F] <;> omega) rfl ⟨A2, d2, es, rfl, HSD.out, HFIN.out _ _ _ _ (by repeat (first | (with_reducible exact H) | (with_reducible apply Hp.alloc) | (with_reducible apply Hp.set) | (with_reducible apply Hp.drew) | (with_reducible apply Hp.drewN) | (with_reducible apply Hp.bytesW) | (with_reducible exact Upd.here) | (with_reducible exact Upd.hereR) | (with_reducible apply Upd.there) | (with_reducible apply Sz.alloc) | (with_reducible apply Sz.set) | (with_reducible apply Sz.drew) | (with_reducible apply Sz.drewN) | (with_reducible apply Sz.bytesW) | (with_reducible assumption) | (with_reducible exact Sz.base _)))⟩
            | true =>
              go_wp2_with fail
              refine bodyPost_ret (v := .agg #[.slice A2 es.length d2]) (by simp [results, Tryd.results61, go_sem, F] <;> omega) rfl ⟨A2, d2, es, rfl, HSD.out, HFIN.out _ _ _ _ (by repeat (first | (with_reducible exact H) | (with_reducible apply Hp.alloc) | (with_reducible apply Hp.set) | (with_reducible apply Hp.drew) | (with_reducible apply Hp.drewN) | (with_reducible apply Hp.bytesW) | (with_reducible exact Upd.here) | (with_reducible exact Upd.hereR) | (with_reducible apply Upd.there) | (with_reducible apply Sz.alloc) | (with_reducible apply Sz.set) | (with_reducible apply Sz.drew) | (with_reducible apply Sz.drewN) | (with_reducible apply Sz.bytesW) | (with_reducible assumption) | (with_reducible exact Sz.base _)))⟩
end Go.Proofs.YtklmcbabpncfmaaDoor
namespace Go.Proofs.YtklmcbabpncfmaaDoor
open Go.RowKit
set_option linter.unusedVariables false
set_option linter.unusedSimpArgs false
set_option maxHeartbeats 4000000 in
set_option maxRecDepth 10000 in
theorem l10DrawOne_hp (A : Option Addr) (n c : Nat) (bs : List UInt8) (w : World) (hr : Rd w w.heap.size 1 A n c (bs.flatMap encByte)) (hn : bs.length = n) :
    Calls Tryd.prog 27 #[.slice A n c] w fun e w' => ∃ (b : Nat) (A' : Option Addr) (c' : Nat) (es : List Entry), e = .returned (.tuple #[.pointer (some ⟨b, 0, none⟩), .agg #[.slice A' es.length c']]) ∧ StoD es ∧ Hp w w' [stoE A' c' es.length es, curE b A n c] := by
  have H := Hp.nil w
  go_enter Tryd.func27, Tryd.ntmps27
  go_wp2_with fail
  refine (l01New_hp A n c bs w _ _ (by repeat (first | (with_reducible exact H) | (with_reducible apply Hp.alloc) | (with_reducible apply Hp.set) | (with_reducible apply Hp.drew) | (with_reducible apply Hp.drewN) | (with_reducible apply Hp.bytesW) | (with_reducible exact Upd.here) | (with_reducible exact Upd.hereR) | (with_reducible apply Upd.there) | (with_reducible apply Sz.alloc) | (with_reducible apply Sz.set) | (with_reducible apply Sz.drew) | (with_reducible apply Sz.drewN) | (with_reducible apply Sz.bytesW) | (with_reducible assumption) | (with_reducible exact Sz.base _))) hr hn).mono ?_
  rintro e w1 ⟨b, rfl, H1⟩
  (try simp only [List.set_cons_zero, List.set_cons_succ, List.cons_append, List.nil_append] at H1)
  (try clear F)
  have F := H1.facts; simp only [Facts, NeF, box, row, reg, cellsF, rByte, rStr, ne_eq, true_and, and_true, Nat.reduceAdd, Nat.zero_add] at F
  go_wp2_with fail
  refine (l01Size_any A n c bs _ (hr.grow (Hp.b (by repeat (first | (with_reducible exact H1) | (with_reducible apply Hp.alloc) | (with_reducible apply Hp.set) | (with_reducible apply Hp.drew) | (with_reducible apply Hp.drewN) | (with_reducible apply Hp.bytesW) | (with_reducible exact Upd.here) | (with_reducible exact Upd.hereR) | (with_reducible apply Upd.there) | (with_reducible apply Sz.alloc) | (with_reducible apply Sz.set) | (with_reducible apply Sz.drew) | (with_reducible apply Sz.drewN) | (with_reducible apply Sz.bytesW) | (with_reducible assumption) | (with_reducible exact Sz.base _))))) hn).mono ?_
  rintro e w2 ⟨x, rfl, hx, q2⟩
  have hm : curE b A n c ∈ [curE b A n c] := List.mem_cons_self
  replace H1 := Hp.step (by repeat (first | (with_reducible exact H1) | (with_reducible apply Hp.alloc) | (with_reducible apply Hp.set) | (with_reducible apply Hp.drew) | (with_reducible apply Hp.drewN) | (with_reducible apply Hp.bytesW) | (with_reducible exact Upd.here) | (with_reducible exact Upd.hereR) | (with_reducible apply Upd.there) | (with_reducible apply Sz.alloc) | (with_reducible apply Sz.set) | (with_reducible apply Sz.drew) | (with_reducible apply Sz.drewN) | (with_reducible apply Sz.bytesW) | (with_reducible assumption) | (with_reducible exact Sz.base _))) q2; (try simp only [List.set_cons_zero, List.set_cons_succ, List.cons_append, List.nil_append] at H1); clear q2; clear F; have F := H1.facts; simp only [Facts, NeF, box, row, reg, cellsF, rByte, rStr, ne_eq, true_and, and_true, Nat.reduceAdd, Nat.zero_add] at F
  go_wp2_with fail
  refine (l01Below_hp b A n c bs w _ _ _ (by repeat (first | (with_reducible exact H1) | (with_reducible apply Hp.alloc) | (with_reducible apply Hp.set) | (with_reducible apply Hp.drew) | (with_reducible apply Hp.drewN) | (with_reducible apply Hp.bytesW) | (with_reducible exact Upd.here) | (with_reducible exact Upd.hereR) | (with_reducible apply Upd.there) | (with_reducible apply Sz.alloc) | (with_reducible apply Sz.set) | (with_reducible apply Sz.drew) | (with_reducible apply Sz.drewN) | (with_reducible apply Sz.bytesW) | (with_reducible assumption) | (with_reducible exact Sz.base _))) (by repeat (first | (with_reducible exact hm) | (with_reducible exact List.mem_cons_self) | (with_reducible apply List.mem_cons_of_mem))) hr hn (by omega) (by omega)).mono ?_
  rintro e w3 ⟨y, rfl, hy, H3⟩
  (try simp only [List.set_cons_zero, List.set_cons_succ, List.cons_append, List.nil_append] at H3)
  (try clear F)
  have F := H3.facts; simp only [Facts, NeF, box, row, reg, cellsF, rByte, rStr, ne_eq, true_and, and_true, Nat.reduceAdd, Nat.zero_add] at F
  obtain ⟨m, rfl⟩ := Int.eq_ofNat_of_zero_le hy.1
  go_wp2_with fail
  refine (l10DrawStore_hp b A n c bs w _ _ m (by omega) (by repeat (first | (with_reducible exact H3) | (with_reducible apply Hp.alloc) | (with_reducible apply Hp.set) | (with_reducible apply Hp.drew) | (with_reducible apply Hp.drewN) | (with_reducible apply Hp.bytesW) | (with_reducible exact Upd.here) | (with_reducible exact Upd.hereR) | (with_reducible apply Upd.there) | (with_reducible apply Sz.alloc) | (with_reducible apply Sz.set) | (with_reducible apply Sz.drew) | (with_reducible apply Sz.drewN) | (with_reducible apply Sz.bytesW) | (with_reducible assumption) | (with_reducible exact Sz.base _))) (by repeat (first | (with_reducible exact hm) | (with_reducible exact List.mem_cons_self) | (with_reducible apply List.mem_cons_of_mem))) hr hn).mono ?_
  rintro e w4 ⟨A4, c4, es, rfl, hS, H4⟩
  (try simp only [List.set_cons_zero, List.set_cons_succ, List.cons_append, List.nil_append] at H4)
  (try clear F)
  have F := H4.facts; simp only [Facts, NeF, box, row, reg, cellsF, rByte, rStr, ne_eq, true_and, and_true, Nat.reduceAdd, Nat.zero_add] at F
  have HSD := Lib.hid hS; clear hS
  go_wp2_with fail
  refine bodyPost_ret (v := .tuple #[.pointer (some ⟨b, 0, none⟩), .agg #[.slice A4 es.length c4]]) (by simp [results, Tryd.results27, go_sem, F]) rfl ⟨b, A4, c4, es, rfl, HSD.out, (by refine Hp.sel (by repeat (first | (with_reducible exact H4) | (with_reducible apply Hp.alloc) | (with_reducible apply Hp.set) | (with_reducible apply Hp.drew) | (with_reducible apply Hp.drewN) | (with_reducible apply Hp.bytesW) | (with_reducible exact Upd.here) | (with_reducible exact Upd.hereR) | (with_reducible apply Upd.there) | (with_reducible apply Sz.alloc) | (with_reducible apply Sz.set) | (with_reducible apply Sz.drew) | (with_reducible apply Sz.drewN) | (with_reducible apply Sz.bytesW) | (with_reducible assumption) | (with_reducible exact Sz.base _))) ?_; (try simp only [List.set_cons_zero, List.set_cons_succ]); exact (by repeat (first | (with_reducible exact Sel.nil) | (with_reducible apply Sel.cons) | (with_reducible exact Del.here) | (with_reducible apply Del.there))))⟩
set_option maxHeartbeats 8000000 in
set_option maxRecDepth 10000 in
theorem l10DrawPath_hp (b : Nat) (A : Option Addr) (n c : Nat) (bs : List UInt8) (w v : World) (L : List Ent) (B : Option Addr) (d : Nat) (us : List Entry) (H : Hp w v L) (hm : curE b A n c ∈ L) (hS : stoE B d us.length us ∈ L) (hsz : ∀ u ∈ us, u.path.size ≤ 250) (hl9 : us.length ≤ 20) (hr : Rd w w.heap.size 1 A n c (bs.flatMap encByte)) (hn : bs.length = n) :
    Calls Tryd.prog 28 #[.pointer (some ⟨b, 0, none⟩), .agg #[.slice B us.length d]] v fun e w' => ∃ x : ByteArray, e = .returned (.string x) ∧ x.size ≤ 250 ∧ Hp w w' L := by
  have hS9 := hS
  by_cases hq : 0 < us.length
  · have hqi : (0 : Int) < (us.length : Int) := by omega
    obtain ⟨g, off, rfl, hgl⟩ := Rd.atV (enc := encEntry) (stoE_rd H hS).1 rfl encEntry_len hq
    have hck : ∀ (W : World) (M : List Ent), Hp w W M → stoE (some ⟨g, off, none⟩) d us.length us ∈ M → ∀ i (hi : i < us.length), W.cell? ⟨g, off + i * 3, none⟩ = some (.string us[i].path) := fun W M h hmm i hi => (Rd.entAt (stoE_rd h hmm).1 rfl (k := i) hi rfl W (Below.refl _ _)).1
    have HCK := Lib.hid hck; clear hck
    go_enter Tryd.func28, Tryd.ntmps28
    go_wp2_with fail
    refine (l01Once_hp b A n c bs w _ _ _ (by repeat (first | (with_reducible exact H) | (with_reducible apply Hp.alloc) | (with_reducible apply Hp.set) | (with_reducible apply Hp.drew) | (with_reducible apply Hp.drewN) | (with_reducible apply Hp.bytesW) | (with_reducible exact Upd.here) | (with_reducible exact Upd.hereR) | (with_reducible apply Upd.there) | (with_reducible apply Sz.alloc) | (with_reducible apply Sz.set) | (with_reducible apply Sz.drew) | (with_reducible apply Sz.drewN) | (with_reducible apply Sz.bytesW) | (with_reducible assumption) | (with_reducible exact Sz.base _))) (by repeat (first | (with_reducible exact hm) | (with_reducible exact List.mem_cons_self) | (with_reducible apply List.mem_cons_of_mem))) hr hn (by omega) (by omega)).mono ?_
    rintro e w1 ⟨x1, rfl, H1⟩
    clear H
    have H := H1; clear H1
    (try simp only [List.set_cons_zero, List.set_cons_succ, List.cons_append, List.nil_append] at H)
    have F := H.facts; simp only [Facts, NeF, box, row, reg, cellsF, rByte, rStr, ne_eq, true_and, and_true, Nat.reduceAdd, Nat.zero_add] at F
    cases x1 with
    | false =>
      go_wp2_with fail
      go_region_law (first | (go_simp; go_at_call 33; refine (l01Below_hp b A n c bs w _ _ _ (by repeat (first | (with_reducible exact H) | (with_reducible apply Hp.alloc) | (with_reducible apply Hp.set) | (with_reducible apply Hp.drew) | (with_reducible apply Hp.drewN) | (with_reducible apply Hp.bytesW) | (with_reducible exact Upd.here) | (with_reducible exact Upd.hereR) | (with_reducible apply Upd.there) | (with_reducible apply Sz.alloc) | (with_reducible apply Sz.set) | (with_reducible apply Sz.drew) | (with_reducible apply Sz.drewN) | (with_reducible apply Sz.bytesW) | (with_reducible assumption) | (with_reducible exact Sz.base _))) (by repeat (first | (with_reducible exact hm) | (with_reducible exact List.mem_cons_self) | (with_reducible apply List.mem_cons_of_mem))) hr hn (by omega) (by omega)).mono ?_; rintro e w2 ⟨x2, rfl, hx2, H2⟩; replace H := H2; clear H2; (try simp only [List.set_cons_zero, List.set_cons_succ, List.cons_append, List.nil_append] at H); clear F; have F := H.facts; simp only [Facts, NeF, box, row, reg, cellsF, rByte, rStr, ne_eq, true_and, and_true, Nat.reduceAdd, Nat.zero_add] at F; obtain ⟨i, rfl⟩ := Int.eq_ofNat_of_zero_le hx2.1; have hi : i < us.length := (by omega); have hi1 : (i : Int) < (us.length : Int) := hx2.2; have hi0 : (0 : Int) ≤ (i : Int) := hx2.1; have hpz := hsz us[i] (List.getElem_mem hi); have hc9 := HCK.out _ _ H (by first | exact List.mem_cons_of_mem _ hS9 | exact hS9) i hi))
      all_goals
        go_wp2_with fail
        go_ret
        exact ⟨_, rfl, hpz, Hp.tails (by repeat (first | (with_reducible exact H) | (with_reducible apply Hp.alloc) | (with_reducible apply Hp.set) | (with_reducible apply Hp.drew) | (with_reducible apply Hp.drewN) | (with_reducible apply Hp.bytesW) | (with_reducible exact Upd.here) | (with_reducible exact Upd.hereR) | (with_reducible apply Upd.there) | (with_reducible apply Sz.alloc) | (with_reducible apply Sz.set) | (with_reducible apply Sz.drew) | (with_reducible apply Sz.drewN) | (with_reducible apply Sz.bytesW) | (with_reducible assumption) | (with_reducible exact Sz.base _))) (by repeat (first | exact Tl.here | apply Tl.there))⟩
    | true =>
      go_wp2_with fail
      refine (l01DrawPath_hp b A n c bs w _ _ (by repeat (first | (with_reducible exact H) | (with_reducible apply Hp.alloc) | (with_reducible apply Hp.set) | (with_reducible apply Hp.drew) | (with_reducible apply Hp.drewN) | (with_reducible apply Hp.bytesW) | (with_reducible exact Upd.here) | (with_reducible exact Upd.hereR) | (with_reducible apply Upd.there) | (with_reducible apply Sz.alloc) | (with_reducible apply Sz.set) | (with_reducible apply Sz.drew) | (with_reducible apply Sz.drewN) | (with_reducible apply Sz.bytesW) | (with_reducible assumption) | (with_reducible exact Sz.base _))) (by repeat (first | (with_reducible exact hm) | (with_reducible exact List.mem_cons_self) | (with_reducible apply List.mem_cons_of_mem))) hr hn).mono ?_
      rintro e w2 ⟨x2, rfl, hx2, H2⟩
      (try simp only [List.set_cons_zero, List.set_cons_succ, List.cons_append, List.nil_append] at H2)
      go_wp2_with fail
      go_ret
      exact ⟨_, rfl, hx2, Hp.tails (by repeat (first | (with_reducible exact H2) | (with_reducible apply Hp.alloc) | (with_reducible apply Hp.set) | (with_reducible apply Hp.drew) | (with_reducible apply Hp.drewN) | (with_reducible apply Hp.bytesW) | (with_reducible exact Upd.here) | (with_reducible exact Upd.hereR) | (with_reducible apply Upd.there) | (with_reducible apply Sz.alloc) | (with_reducible apply Sz.set) | (with_reducible apply Sz.drew) | (with_reducible apply Sz.drewN) | (with_reducible apply Sz.bytesW) | (with_reducible assumption) | (with_reducible exact Sz.base _))) (by repeat (first | exact Tl.here | apply Tl.there))⟩
  · have hqi : (us.length : Int) ≤ 0 := by omega
    go_enter Tryd.func28, Tryd.ntmps28
    go_wp2_with fail
    refine (l01DrawPath_hp b A n c bs w _ _ (by repeat (first | (with_reducible exact H) | (with_reducible apply Hp.alloc) | (with_reducible apply Hp.set) | (with_reducible apply Hp.drew) | (with_reducible apply Hp.drewN) | (with_reducible apply Hp.bytesW) | (with_reducible exact Upd.here) | (with_reducible exact Upd.hereR) | (with_reducible apply Upd.there) | (with_reducible apply Sz.alloc) | (with_reducible apply Sz.set) | (with_reducible apply Sz.drew) | (with_reducible apply Sz.drewN) | (with_reducible apply Sz.bytesW) | (with_reducible assumption) | (with_reducible exact Sz.base _))) (by repeat (first | (with_reducible exact hm) | (with_reducible exact List.mem_cons_self) | (with_reducible apply List.mem_cons_of_mem))) hr hn).mono ?_
    rintro e w2 ⟨x2, rfl, hx2, H2⟩
    (try simp only [List.set_cons_zero, List.set_cons_succ, List.cons_append, List.nil_append] at H2)
    go_wp2_with fail
    go_ret
    exact ⟨_, rfl, hx2, Hp.tails (by repeat (first | (with_reducible exact H2) | (with_reducible apply Hp.alloc) | (with_reducible apply Hp.set) | (with_reducible apply Hp.drew) | (with_reducible apply Hp.drewN) | (with_reducible apply Hp.bytesW) | (with_reducible exact Upd.here) | (with_reducible exact Upd.hereR) | (with_reducible apply Upd.there) | (with_reducible apply Sz.alloc) | (with_reducible apply Sz.set) | (with_reducible apply Sz.drew) | (with_reducible apply Sz.drewN) | (with_reducible apply Sz.bytesW) | (with_reducible assumption) | (with_reducible exact Sz.base _))) (by repeat (first | exact Tl.here | apply Tl.there))⟩
end Go.Proofs.YtklmcbabpncfmaaDoor
namespace Go.Proofs.YtklmcbabpncfmaaDoor
open Go.RowKit
set_option linter.unusedVariables false
set_option linter.unusedSimpArgs false
theorem segA_last (c : UInt8) : ∀ (l acc : List UInt8), 2 ≤ (segA c acc l).length → ∀ p, (segA c acc l)[(segA c acc l).length - 1]? = some p → p.length + 1 ≤ acc.length + l.length
  | [], acc, h, p, hp => by simp [segA] at h
  | x :: l, acc, h, p, hp => by
    unfold segA at h hp
    by_cases hx : (x == c) = true
    · rw [if_pos hx] at h hp
      have hm : p ∈ segA c [] l := by
        rw [List.length_cons, Nat.add_sub_cancel] at hp
        have h2 : (segA c [] l).length = (segA c [] l).length - 1 + 1 := by simp at h; omega
        rw [h2, List.getElem?_cons_succ] at hp
        exact List.mem_of_getElem? hp
      have := segA_sub c l [] p hm
      simp at this ⊢; omega
    · rw [if_neg hx] at h hp
      have := segA_last c l (acc ++ [x]) h p hp
      simp at this ⊢; omega
theorem segsC_last (s : ByteArray) (h : 2 ≤ (segsC 47 s).length) : ((segsC 47 s)[(segsC 47 s).length - 1]'(by omega)).size + 1 ≤ s.size := by
  have hl : (segA 47 [] s.data.toList).length = (segsC 47 s).length := by rw [← segsC_data, List.length_map]
  have := segA_last 47 s.data.toList [] (by omega) ((segsC 47 s)[(segsC 47 s).length - 1]'(by omega)).data.toList (by
    rw [hl, ← segsC_data, List.getElem?_map, List.getElem?_eq_getElem (by omega)]; rfl)
  simpa using this
set_option maxHeartbeats 4000000 in
set_option maxRecDepth 10000 in
theorem specParent_any (s : ByteArray) (w : World) (hs : s.size ≤ 1048576) :
    Calls Tryd.prog 48 #[.string s] w fun e w' => ∃ (x : ByteArray) (b : Bool), e = .returned (.tuple #[.string x, .bool b]) ∧ x.size ≤ s.size ∧ Below w.heap.size w w' := by
  have H := Hp.nil w
  have hm : s.size ≤ maxLen := by unfold maxLen; omega
  cases hp : pathF s with
  | false =>
    go_enter Tryd.func48, Tryd.ntmps48
    go_wp2_with (go_at_call 36; refine (PathOk_any s _ hm).mono ?_; rintro e w0 ⟨rfl, q0⟩; rw [hp]; replace H := Hp.step (by repeat (first | (with_reducible exact H) | (with_reducible apply Hp.alloc) | (with_reducible apply Hp.set) | (with_reducible apply Hp.drew) | (with_reducible apply Hp.drewN) | (with_reducible apply Hp.bytesW) | (with_reducible exact Upd.here) | (with_reducible exact Upd.hereR) | (with_reducible apply Upd.there) | (with_reducible apply Sz.alloc) | (with_reducible apply Sz.set) | (with_reducible apply Sz.drew) | (with_reducible apply Sz.drewN) | (with_reducible apply Sz.bytesW) | (with_reducible assumption) | (with_reducible exact Sz.base _))) q0; (try simp only [List.set_cons_zero, List.set_cons_succ, List.cons_append, List.nil_append] at H); clear q0; have F := H.facts; simp only [Facts, NeF, box, row, reg, cellsF, rByte, rStr, ne_eq, true_and, and_true, Nat.reduceAdd, Nat.zero_add] at F)
    refine bodyPost_ret (v := .tuple #[.string ByteArray.empty, .bool false]) (by simp [results, Tryd.results48, go_sem]; rfl) rfl ⟨ByteArray.empty, false, rfl, Nat.zero_le _, Hp.b (by repeat (first | (with_reducible exact H) | (with_reducible apply Hp.alloc) | (with_reducible apply Hp.set) | (with_reducible apply Hp.drew) | (with_reducible apply Hp.drewN) | (with_reducible apply Hp.bytesW) | (with_reducible exact Upd.here) | (with_reducible exact Upd.hereR) | (with_reducible apply Upd.there) | (with_reducible apply Sz.alloc) | (with_reducible apply Sz.set) | (with_reducible apply Sz.drew) | (with_reducible apply Sz.drewN) | (with_reducible apply Sz.bytesW) | (with_reducible assumption) | (with_reducible exact Sz.base _)))⟩
  | true =>
    go_enter Tryd.func48, Tryd.ntmps48
    go_wp2_with (go_at_call 36; refine (PathOk_any s _ hm).mono ?_; rintro e w0 ⟨rfl, q0⟩; rw [hp]; replace H := Hp.step (by repeat (first | (with_reducible exact H) | (with_reducible apply Hp.alloc) | (with_reducible apply Hp.set) | (with_reducible apply Hp.drew) | (with_reducible apply Hp.drewN) | (with_reducible apply Hp.bytesW) | (with_reducible exact Upd.here) | (with_reducible exact Upd.hereR) | (with_reducible apply Upd.there) | (with_reducible apply Sz.alloc) | (with_reducible apply Sz.set) | (with_reducible apply Sz.drew) | (with_reducible apply Sz.drewN) | (with_reducible apply Sz.bytesW) | (with_reducible assumption) | (with_reducible exact Sz.base _))) q0; (try simp only [List.set_cons_zero, List.set_cons_succ, List.cons_append, List.nil_append] at H); clear q0; have F := H.facts; simp only [Facts, NeF, box, row, reg, cellsF, rByte, rStr, ne_eq, true_and, and_true, Nat.reduceAdd, Nat.zero_add] at F)
    refine (l01Parts_hp s 47 _ hs).mono ?_
    rintro e w1 ⟨A1, c1, rfl, h1⟩
    replace H := Hp.call (by repeat (first | (with_reducible exact H) | (with_reducible apply Hp.alloc) | (with_reducible apply Hp.set) | (with_reducible apply Hp.drew) | (with_reducible apply Hp.drewN) | (with_reducible apply Hp.bytesW) | (with_reducible exact Upd.here) | (with_reducible exact Upd.hereR) | (with_reducible apply Upd.there) | (with_reducible apply Sz.alloc) | (with_reducible apply Sz.set) | (with_reducible apply Sz.drew) | (with_reducible apply Sz.drewN) | (with_reducible apply Sz.bytesW) | (with_reducible assumption) | (with_reducible exact Sz.base _))) h1; (try simp only [List.set_cons_zero, List.set_cons_succ, List.cons_append, List.nil_append] at H); clear h1 F; have F := H.facts; simp only [Facts, NeF, box, row, reg, cellsF, rByte, rStr, ne_eq, true_and, and_true, Nat.reduceAdd, Nat.zero_add] at F
    have hpos := segsC_pos 47 s
    have hle := segsC_len 47 s
    by_cases h1 : (segsC 47 s).length = 1
    · have h1b : (((segsC 47 s).length : Int) == 1) = true := by rw [h1]; rfl
      rw [h1]
      go_wp2_with fail
      refine bodyPost_ret (v := .tuple #[.string ByteArray.empty, .bool false]) (by simp [results, Tryd.results48, go_sem]; rfl) rfl ⟨ByteArray.empty, false, rfl, Nat.zero_le _, Hp.b (by repeat (first | (with_reducible exact H) | (with_reducible apply Hp.alloc) | (with_reducible apply Hp.set) | (with_reducible apply Hp.drew) | (with_reducible apply Hp.drewN) | (with_reducible apply Hp.bytesW) | (with_reducible exact Upd.here) | (with_reducible exact Upd.hereR) | (with_reducible apply Upd.there) | (with_reducible apply Sz.alloc) | (with_reducible apply Sz.set) | (with_reducible apply Sz.drew) | (with_reducible apply Sz.drewN) | (with_reducible apply Sz.bytesW) | (with_reducible assumption) | (with_reducible exact Sz.base _)))⟩
    · have hlast := segsC_last s (by omega)
      obtain ⟨g5, rfl⟩ := rowGm (H.rowM (t := 9) (k := 1) (v := .slice A1 (segsC 47 s).length c1) (n := (segsC 47 s).length) (xs := (segsC 47 s).flatMap encStr) (show rStr A1 c1 (segsC 47 s) ∈ _ from (by repeat (first | (with_reducible exact List.mem_cons_self) | (with_reducible apply List.mem_cons_of_mem))))) (by omega)
      obtain ⟨m, hm1⟩ : ∃ m, (segsC 47 s).length = m + 1 := ⟨(segsC 47 s).length - 1, by omega⟩
      obtain ⟨t, ht⟩ : ∃ t, (segsC 47 s)[(segsC 47 s).length - 1]'(by omega) = t := ⟨_, rfl⟩
      rw [ht] at hlast
      have c9 := own_at (j := m) (v := .string t) (H.rowM (t := 9) (k := 1) (v := .slice (some ⟨g5, 0, none⟩) (segsC 47 s).length c1) (n := (segsC 47 s).length) (xs := (segsC 47 s).flatMap encStr) (show rStr (some ⟨g5, 0, none⟩) c1 (segsC 47 s) ∈ _ from (by repeat (first | (with_reducible exact List.mem_cons_self) | (with_reducible apply List.mem_cons_of_mem))))) (by
        have h9 := flat_get encStr 1 encStr_len (segsC 47 s) m 0 (by omega)
        rw [Nat.mul_one, Nat.add_zero, List.getElem?_eq_getElem (show m < (segsC 47 s).length by omega)] at h9
        rw [h9, ← ht]
        simp only [hm1, Nat.add_sub_cancel]; rfl)
      rw [hm1] at hle ⊢
      clear ht hpos
      have HB := Lib.hid (Hp.b (by repeat (first | (with_reducible exact H) | (with_reducible apply Hp.alloc) | (with_reducible apply Hp.set) | (with_reducible apply Hp.drew) | (with_reducible apply Hp.drewN) | (with_reducible apply Hp.bytesW) | (with_reducible exact Upd.here) | (with_reducible exact Upd.hereR) | (with_reducible apply Upd.there) | (with_reducible apply Sz.alloc) | (with_reducible apply Sz.set) | (with_reducible apply Sz.drew) | (with_reducible apply Sz.drewN) | (with_reducible apply Sz.bytesW) | (with_reducible assumption) | (with_reducible exact Sz.base _))))
      clear H F
      go_wp2_with fail
      refine bodyPost_ret (v := .tuple #[.string (s.extract 0 (s.size - t.size - 1)), .bool true]) (by simp [results, Tryd.results48, go_sem]) rfl ⟨_, true, rfl, by simp; omega, HB.out⟩
set_option maxHeartbeats 16000000 in
set_option maxRecDepth 10000 in
theorem DrawListKv_hp (A : Option Addr) (n c : Nat) (bs : List UInt8) (w : World) (hr : Rd w w.heap.size 1 A n c (bs.flatMap encByte)) (hn : bs.length = n) :
    Calls Tryd.prog 16 #[.slice A n c] w fun e w' => ∃ (A' : Option Addr) (c' : Nat) (es : List Entry) (x : ByteArray), e = .returned (.tuple #[.agg #[.slice A' es.length c'], .string x]) ∧ StoD es ∧ x.size ≤ 250 ∧ Hp w w' [stoE A' c' es.length es] := by
  have H := Hp.nil w
  go_enter Tryd.func16, Tryd.ntmps16
  go_wp2_with fail
  refine (l10DrawOne_hp A n c bs _ (hr.grow (Hp.b (by repeat (first | (with_reducible exact H) | (with_reducible apply Hp.alloc) | (with_reducible apply Hp.set) | (with_reducible apply Hp.drew) | (with_reducible apply Hp.drewN) | (with_reducible apply Hp.bytesW) | (with_reducible exact Upd.here) | (with_reducible exact Upd.hereR) | (with_reducible apply Upd.there) | (with_reducible apply Sz.alloc) | (with_reducible apply Sz.set) | (with_reducible apply Sz.drew) | (with_reducible apply Sz.drewN) | (with_reducible apply Sz.bytesW) | (with_reducible assumption) | (with_reducible exact Sz.base _))))) hn).mono ?_
  rintro e w1 ⟨b, A1, c1, es, rfl, hS, H1⟩
  replace H := Hp.call (by repeat (first | (with_reducible exact H) | (with_reducible apply Hp.alloc) | (with_reducible apply Hp.set) | (with_reducible apply Hp.drew) | (with_reducible apply Hp.drewN) | (with_reducible apply Hp.bytesW) | (with_reducible exact Upd.here) | (with_reducible exact Upd.hereR) | (with_reducible apply Upd.there) | (with_reducible apply Sz.alloc) | (with_reducible apply Sz.set) | (with_reducible apply Sz.drew) | (with_reducible apply Sz.drewN) | (with_reducible apply Sz.bytesW) | (with_reducible assumption) | (with_reducible exact Sz.base _))) H1; (try simp only [List.set_cons_zero, List.set_cons_succ, List.cons_append, List.nil_append] at H); clear H1; (try clear F)
  have F := H.facts; simp only [Facts, NeF, box, row, reg, cellsF, rByte, rStr, ne_eq, true_and, and_true, Nat.reduceAdd, Nat.zero_add] at F
  have HSD := Lib.hid hS
  go_wp2_with fail
  refine (l10DrawPath_hp b A n c bs w _ _ A1 c1 es (by repeat (first | (with_reducible exact H) | (with_reducible apply Hp.alloc) | (with_reducible apply Hp.set) | (with_reducible apply Hp.drew) | (with_reducible apply Hp.drewN) | (with_reducible apply Hp.bytesW) | (with_reducible exact Upd.here) | (with_reducible exact Upd.hereR) | (with_reducible apply Upd.there) | (with_reducible apply Sz.alloc) | (with_reducible apply Sz.set) | (with_reducible apply Sz.drew) | (with_reducible apply Sz.drewN) | (with_reducible apply Sz.bytesW) | (with_reducible assumption) | (with_reducible exact Sz.base _))) (by repeat (first | (with_reducible exact List.mem_cons_self) | (with_reducible apply List.mem_cons_of_mem))) (by repeat (first | (with_reducible exact List.mem_cons_self) | (with_reducible apply List.mem_cons_of_mem))) (fun u hu => (hS.2 u hu).1) hS.1 hr hn).mono ?_
  rintro e w2 ⟨px, rfl, hpx, H2⟩
  replace H := H2; clear H2; (try simp only [List.set_cons_zero, List.set_cons_succ, List.cons_append, List.nil_append] at H); clear F; have F := H.facts; simp only [Facts, NeF, box, row, reg, cellsF, rByte, rStr, ne_eq, true_and, and_true, Nat.reduceAdd, Nat.zero_add] at F
  have hS20 := hS.1
  clear hS
  go_wp2_with fail
  refine (specParent_any px _ (by omega)).mono ?_
  rintro e w3 ⟨qx, qb, rfl, hq, q3⟩
  replace H := Hp.step (by repeat (first | (with_reducible exact H) | (with_reducible apply Hp.alloc) | (with_reducible apply Hp.set) | (with_reducible apply Hp.drew) | (with_reducible apply Hp.drewN) | (with_reducible apply Hp.bytesW) | (with_reducible exact Upd.here) | (with_reducible exact Upd.hereR) | (with_reducible apply Upd.there) | (with_reducible apply Sz.alloc) | (with_reducible apply Sz.set) | (with_reducible apply Sz.drew) | (with_reducible apply Sz.drewN) | (with_reducible apply Sz.bytesW) | (with_reducible assumption) | (with_reducible exact Sz.base _))) q3; (try simp only [List.set_cons_zero, List.set_cons_succ, List.cons_append, List.nil_append] at H); clear q3 F; have F := H.facts; simp only [Facts, NeF, box, row, reg, cellsF, rByte, rStr, ne_eq, true_and, and_true, Nat.reduceAdd, Nat.zero_add] at F
  have HPX := Lib.hid hpx
  have hqx : qx.size ≤ 250 := by omega
  have HQX := Lib.hid hqx
  clear hpx hqx hq
  cases qb with
  | false =>
    go_wp2_with fail
    refine (l01Once_hp b A n c bs w _ _ _ (by repeat (first | (with_reducible exact H) | (with_reducible apply Hp.alloc) | (with_reducible apply Hp.set) | (with_reducible apply Hp.drew) | (with_reducible apply Hp.drewN) | (with_reducible apply Hp.bytesW) | (with_reducible exact Upd.here) | (with_reducible exact Upd.hereR) | (with_reducible apply Upd.there) | (with_reducible apply Sz.alloc) | (with_reducible apply Sz.set) | (with_reducible apply Sz.drew) | (with_reducible apply Sz.drewN) | (with_reducible apply Sz.bytesW) | (with_reducible assumption) | (with_reducible exact Sz.base _))) (by repeat (first | (with_reducible exact hm) | (with_reducible exact List.mem_cons_self) | (with_reducible apply List.mem_cons_of_mem))) hr hn (by omega) (by omega)).mono ?_
    rintro e w5 ⟨x5, rfl, H5⟩
    replace H := H5; clear H5; (try simp only [List.set_cons_zero, List.set_cons_succ, List.cons_append, List.nil_append] at H); (try clear F); have F := H.facts; simp only [Facts, NeF, box, row, reg, cellsF, rByte, rStr, ne_eq, true_and, and_true, Nat.reduceAdd, Nat.zero_add] at F
    cases x5 with
    | false =>
      go_wp2_with fail
      refine bodyPost_ret (v := .tuple #[.agg #[.slice A1 es.length c1], .string px]) (by simp [results, Tryd.results16, go_sem, F]) rfl ⟨A1, c1, es, px, rfl, HSD.out, HPX.out, (by refine Hp.sel (by repeat (first | (with_reducible exact H) | (with_reducible apply Hp.alloc) | (with_reducible apply Hp.set) | (with_reducible apply Hp.drew) | (with_reducible apply Hp.drewN) | (with_reducible apply Hp.bytesW) | (with_reducible exact Upd.here) | (with_reducible exact Upd.hereR) | (with_reducible apply Upd.there) | (with_reducible apply Sz.alloc) | (with_reducible apply Sz.set) | (with_reducible apply Sz.drew) | (with_reducible apply Sz.drewN) | (with_reducible apply Sz.bytesW) | (with_reducible assumption) | (with_reducible exact Sz.base _))) ?_; (try simp only [List.set_cons_zero, List.set_cons_succ]); exact (by repeat (first | (with_reducible exact Sel.nil) | (with_reducible apply Sel.cons) | (with_reducible exact Del.here) | (with_reducible apply Del.there))))⟩
    | true =>
      go_wp2_with (go_at_call 49; refine (l01PickText_hp b A n c bs w _ _ _ _ _ (by repeat (first | (with_reducible exact H) | (with_reducible apply Hp.alloc) | (with_reducible apply Hp.set) | (with_reducible apply Hp.drew) | (with_reducible apply Hp.drewN) | (with_reducible apply Hp.bytesW) | (with_reducible exact Upd.here) | (with_reducible exact Upd.hereR) | (with_reducible apply Upd.there) | (with_reducible apply Sz.alloc) | (with_reducible apply Sz.set) | (with_reducible apply Sz.drew) | (with_reducible apply Sz.drewN) | (with_reducible apply Sz.bytesW) | (with_reducible assumption) | (with_reducible exact Sz.base _))) (by repeat (first | (with_reducible exact hm) | (with_reducible exact List.mem_cons_self) | (with_reducible apply List.mem_cons_of_mem))) (by repeat (first | (with_reducible exact List.mem_cons_self) | (with_reducible apply List.mem_cons_of_mem))) (by rfl) (by omega) (by omega) (by repeat (first | exact trivial | refine ⟨⟨_, rfl, by decide⟩, ?_⟩)) hr hn).mono ?_; rintro e wz5 ⟨x6, rfl, hx6, H5⟩; replace H := H5; clear H5; (try simp only [List.set_cons_zero, List.set_cons_succ, List.cons_append, List.nil_append] at H); (try clear F); (try have F := H.facts; simp only [Facts, NeF, box, row, reg, cellsF, rByte, rStr, ne_eq, true_and, and_true, Nat.reduceAdd, Nat.zero_add] at F))
      refine bodyPost_ret (v := .tuple #[.agg #[.slice A1 es.length c1], .string x6]) (by simp [results, Tryd.results16, go_sem, F]) rfl ⟨A1, c1, es, x6, rfl, HSD.out, by omega, (by refine Hp.sel (by repeat (first | (with_reducible exact H) | (with_reducible apply Hp.alloc) | (with_reducible apply Hp.set) | (with_reducible apply Hp.drew) | (with_reducible apply Hp.drewN) | (with_reducible apply Hp.bytesW) | (with_reducible exact Upd.here) | (with_reducible exact Upd.hereR) | (with_reducible apply Upd.there) | (with_reducible apply Sz.alloc) | (with_reducible apply Sz.set) | (with_reducible apply Sz.drew) | (with_reducible apply Sz.drewN) | (with_reducible apply Sz.bytesW) | (with_reducible assumption) | (with_reducible exact Sz.base _))) ?_; (try simp only [List.set_cons_zero, List.set_cons_succ]); exact (by repeat (first | (with_reducible exact Sel.nil) | (with_reducible apply Sel.cons) | (with_reducible exact Del.here) | (with_reducible apply Del.there))))⟩
  | true =>
    go_wp2_with fail
    refine (l01Below_hp b A n c bs w _ _ _ (by repeat (first | (with_reducible exact H) | (with_reducible apply Hp.alloc) | (with_reducible apply Hp.set) | (with_reducible apply Hp.drew) | (with_reducible apply Hp.drewN) | (with_reducible apply Hp.bytesW) | (with_reducible exact Upd.here) | (with_reducible exact Upd.hereR) | (with_reducible apply Upd.there) | (with_reducible apply Sz.alloc) | (with_reducible apply Sz.set) | (with_reducible apply Sz.drew) | (with_reducible apply Sz.drewN) | (with_reducible apply Sz.bytesW) | (with_reducible assumption) | (with_reducible exact Sz.base _))) (by repeat (first | (with_reducible exact hm) | (with_reducible exact List.mem_cons_self) | (with_reducible apply List.mem_cons_of_mem))) hr hn (by omega) (by omega)).mono ?_
    rintro e w4 ⟨x4, rfl, hx4, H4⟩
    replace H := H4; clear H4; (try simp only [List.set_cons_zero, List.set_cons_succ, List.cons_append, List.nil_append] at H); (try clear F); have F := H.facts; simp only [Facts, NeF, box, row, reg, cellsF, rByte, rStr, ne_eq, true_and, and_true, Nat.reduceAdd, Nat.zero_add] at F
    by_cases h0 : 0 < x4
    · have h0d : decide (x4 > 0) = true := decide_eq_true h0
      go_wp2_with fail
      refine (l01Once_hp b A n c bs w _ _ _ (by repeat (first | (with_reducible exact H) | (with_reducible apply Hp.alloc) | (with_reducible apply Hp.set) | (with_reducible apply Hp.drew) | (with_reducible apply Hp.drewN) | (with_reducible apply Hp.bytesW) | (with_reducible exact Upd.here) | (with_reducible exact Upd.hereR) | (with_reducible apply Upd.there) | (with_reducible apply Sz.alloc) | (with_reducible apply Sz.set) | (with_reducible apply Sz.drew) | (with_reducible apply Sz.drewN) | (with_reducible apply Sz.bytesW) | (with_reducible assumption) | (with_reducible exact Sz.base _))) (by repeat (first | (with_reducible exact hm) | (with_reducible exact List.mem_cons_self) | (with_reducible apply List.mem_cons_of_mem))) hr hn (by omega) (by omega)).mono ?_
      rintro e w5 ⟨x5, rfl, H5⟩
      replace H := H5; clear H5; (try simp only [List.set_cons_zero, List.set_cons_succ, List.cons_append, List.nil_append] at H); (try clear F); have F := H.facts; simp only [Facts, NeF, box, row, reg, cellsF, rByte, rStr, ne_eq, true_and, and_true, Nat.reduceAdd, Nat.zero_add] at F
      cases x5 with
      | false =>
        go_wp2_with fail
        refine bodyPost_ret (v := .tuple #[.agg #[.slice A1 es.length c1], .string qx]) (by simp [results, Tryd.results16, go_sem, F]) rfl ⟨A1, c1, es, qx, rfl, HSD.out, HQX.out, (by refine Hp.sel (by repeat (first | (with_reducible exact H) | (with_reducible apply Hp.alloc) | (with_reducible apply Hp.set) | (with_reducible apply Hp.drew) | (with_reducible apply Hp.drewN) | (with_reducible apply Hp.bytesW) | (with_reducible exact Upd.here) | (with_reducible exact Upd.hereR) | (with_reducible apply Upd.there) | (with_reducible apply Sz.alloc) | (with_reducible apply Sz.set) | (with_reducible apply Sz.drew) | (with_reducible apply Sz.drewN) | (with_reducible apply Sz.bytesW) | (with_reducible assumption) | (with_reducible exact Sz.base _))) ?_; (try simp only [List.set_cons_zero, List.set_cons_succ]); exact (by repeat (first | (with_reducible exact Sel.nil) | (with_reducible apply Sel.cons) | (with_reducible exact Del.here) | (with_reducible apply Del.there))))⟩
      | true =>
        go_wp2_with (go_at_call 49; refine (l01PickText_hp b A n c bs w _ _ _ _ _ (by repeat (first | (with_reducible exact H) | (with_reducible apply Hp.alloc) | (with_reducible apply Hp.set) | (with_reducible apply Hp.drew) | (with_reducible apply Hp.drewN) | (with_reducible apply Hp.bytesW) | (with_reducible exact Upd.here) | (with_reducible exact Upd.hereR) | (with_reducible apply Upd.there) | (with_reducible apply Sz.alloc) | (with_reducible apply Sz.set) | (with_reducible apply Sz.drew) | (with_reducible apply Sz.drewN) | (with_reducible apply Sz.bytesW) | (with_reducible assumption) | (with_reducible exact Sz.base _))) (by repeat (first | (with_reducible exact hm) | (with_reducible exact List.mem_cons_self) | (with_reducible apply List.mem_cons_of_mem))) (by repeat (first | (with_reducible exact List.mem_cons_self) | (with_reducible apply List.mem_cons_of_mem))) (by rfl) (by omega) (by omega) (by repeat (first | exact trivial | refine ⟨⟨_, rfl, by decide⟩, ?_⟩)) hr hn).mono ?_; rintro e wz5 ⟨x6, rfl, hx6, H5⟩; replace H := H5; clear H5; (try simp only [List.set_cons_zero, List.set_cons_succ, List.cons_append, List.nil_append] at H); (try clear F); (try have F := H.facts; simp only [Facts, NeF, box, row, reg, cellsF, rByte, rStr, ne_eq, true_and, and_true, Nat.reduceAdd, Nat.zero_add] at F))
        refine bodyPost_ret (v := .tuple #[.agg #[.slice A1 es.length c1], .string x6]) (by simp [results, Tryd.results16, go_sem, F]) rfl ⟨A1, c1, es, x6, rfl, HSD.out, by omega, (by refine Hp.sel (by repeat (first | (with_reducible exact H) | (with_reducible apply Hp.alloc) | (with_reducible apply Hp.set) | (with_reducible apply Hp.drew) | (with_reducible apply Hp.drewN) | (with_reducible apply Hp.bytesW) | (with_reducible exact Upd.here) | (with_reducible exact Upd.hereR) | (with_reducible apply Upd.there) | (with_reducible apply Sz.alloc) | (with_reducible apply Sz.set) | (with_reducible apply Sz.drew) | (with_reducible apply Sz.drewN) | (with_reducible apply Sz.bytesW) | (with_reducible assumption) | (with_reducible exact Sz.base _))) ?_; (try simp only [List.set_cons_zero, List.set_cons_succ]); exact (by repeat (first | (with_reducible exact Sel.nil) | (with_reducible apply Sel.cons) | (with_reducible exact Del.here) | (with_reducible apply Del.there))))⟩
    · have h0d : decide (x4 > 0) = false := decide_eq_false h0
      go_wp2_with fail
      refine (l01Once_hp b A n c bs w _ _ _ (by repeat (first | (with_reducible exact H) | (with_reducible apply Hp.alloc) | (with_reducible apply Hp.set) | (with_reducible apply Hp.drew) | (with_reducible apply Hp.drewN) | (with_reducible apply Hp.bytesW) | (with_reducible exact Upd.here) | (with_reducible exact Upd.hereR) | (with_reducible apply Upd.there) | (with_reducible apply Sz.alloc) | (with_reducible apply Sz.set) | (with_reducible apply Sz.drew) | (with_reducible apply Sz.drewN) | (with_reducible apply Sz.bytesW) | (with_reducible assumption) | (with_reducible exact Sz.base _))) (by repeat (first | (with_reducible exact hm) | (with_reducible exact List.mem_cons_self) | (with_reducible apply List.mem_cons_of_mem))) hr hn (by omega) (by omega)).mono ?_
      rintro e w5 ⟨x5, rfl, H5⟩
      replace H := H5; clear H5; (try simp only [List.set_cons_zero, List.set_cons_succ, List.cons_append, List.nil_append] at H); (try clear F); have F := H.facts; simp only [Facts, NeF, box, row, reg, cellsF, rByte, rStr, ne_eq, true_and, and_true, Nat.reduceAdd, Nat.zero_add] at F
      cases x5 with
      | false =>
        go_wp2_with fail
        refine bodyPost_ret (v := .tuple #[.agg #[.slice A1 es.length c1], .string px]) (by simp [results, Tryd.results16, go_sem, F]) rfl ⟨A1, c1, es, px, rfl, HSD.out, HPX.out, (by refine Hp.sel (by repeat (first | (with_reducible exact H) | (with_reducible apply Hp.alloc) | (with_reducible apply Hp.set) | (with_reducible apply Hp.drew) | (with_reducible apply Hp.drewN) | (with_reducible apply Hp.bytesW) | (with_reducible exact Upd.here) | (with_reducible exact Upd.hereR) | (with_reducible apply Upd.there) | (with_reducible apply Sz.alloc) | (with_reducible apply Sz.set) | (with_reducible apply Sz.drew) | (with_reducible apply Sz.drewN) | (with_reducible apply Sz.bytesW) | (with_reducible assumption) | (with_reducible exact Sz.base _))) ?_; (try simp only [List.set_cons_zero, List.set_cons_succ]); exact (by repeat (first | (with_reducible exact Sel.nil) | (with_reducible apply Sel.cons) | (with_reducible exact Del.here) | (with_reducible apply Del.there))))⟩
      | true =>
        go_wp2_with (go_at_call 49; refine (l01PickText_hp b A n c bs w _ _ _ _ _ (by repeat (first | (with_reducible exact H) | (with_reducible apply Hp.alloc) | (with_reducible apply Hp.set) | (with_reducible apply Hp.drew) | (with_reducible apply Hp.drewN) | (with_reducible apply Hp.bytesW) | (with_reducible exact Upd.here) | (with_reducible exact Upd.hereR) | (with_reducible apply Upd.there) | (with_reducible apply Sz.alloc) | (with_reducible apply Sz.set) | (with_reducible apply Sz.drew) | (with_reducible apply Sz.drewN) | (with_reducible apply Sz.bytesW) | (with_reducible assumption) | (with_reducible exact Sz.base _))) (by repeat (first | (with_reducible exact hm) | (with_reducible exact List.mem_cons_self) | (with_reducible apply List.mem_cons_of_mem))) (by repeat (first | (with_reducible exact List.mem_cons_self) | (with_reducible apply List.mem_cons_of_mem))) (by rfl) (by omega) (by omega) (by repeat (first | exact trivial | refine ⟨⟨_, rfl, by decide⟩, ?_⟩)) hr hn).mono ?_; rintro e wz5 ⟨x6, rfl, hx6, H5⟩; replace H := H5; clear H5; (try simp only [List.set_cons_zero, List.set_cons_succ, List.cons_append, List.nil_append] at H); (try clear F); (try have F := H.facts; simp only [Facts, NeF, box, row, reg, cellsF, rByte, rStr, ne_eq, true_and, and_true, Nat.reduceAdd, Nat.zero_add] at F))
        refine bodyPost_ret (v := .tuple #[.agg #[.slice A1 es.length c1], .string x6]) (by simp [results, Tryd.results16, go_sem, F]) rfl ⟨A1, c1, es, x6, rfl, HSD.out, by omega, (by refine Hp.sel (by repeat (first | (with_reducible exact H) | (with_reducible apply Hp.alloc) | (with_reducible apply Hp.set) | (with_reducible apply Hp.drew) | (with_reducible apply Hp.drewN) | (with_reducible apply Hp.bytesW) | (with_reducible exact Upd.here) | (with_reducible exact Upd.hereR) | (with_reducible apply Upd.there) | (with_reducible apply Sz.alloc) | (with_reducible apply Sz.set) | (with_reducible apply Sz.drew) | (with_reducible apply Sz.drewN) | (with_reducible apply Sz.bytesW) | (with_reducible assumption) | (with_reducible exact Sz.base _))) ?_; (try simp only [List.set_cons_zero, List.set_cons_succ]); exact (by repeat (first | (with_reducible exact Sel.nil) | (with_reducible apply Sel.cons) | (with_reducible exact Del.here) | (with_reducible apply Del.there))))⟩
end Go.Proofs.YtklmcbabpncfmaaDoor

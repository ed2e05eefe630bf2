/- A text put into an ascending list, once (the reference's). No condition. -/
import Derived.Test.YtklmcbabpncfmaaDoorEnStr
import Derived.Test.YtklmcbabpncfmaaDoorM3
import Derived.Test.YtklmcbabpncfmaaDoorHpB
import Derived.Test.YtklmcbabpncfmaaDoorKvC
import Derived.Test.YtklmcbabpncfmaaDoorKvO
namespace Go.Proofs.YtklmcbabpncfmaaDoor
open Go.RowKit
set_option linter.unusedVariables false
set_option linter.unusedSimpArgs false
theorem Hp.boxNilS {w0 w : World} {L : List Ent} {g : Nat} (H : Hp w0 w (box g 9 [] :: L)) : Hp w0 w (rStr (some ⟨g, 0, none⟩) 0 [] :: L) := Hp.boxRow H 0 1 0 0 rfl rfl (Nat.le_refl _) (Nat.zero_le _)
def putT : List ByteArray → ByteArray → List ByteArray
  | [], x => [x]
  | y :: l, x => if ltS y x = true then y :: putT l x else if ltS x y = true then x :: y :: l else y :: l
theorem putT_len : ∀ (l : List ByteArray) (x : ByteArray), (putT l x).length ≤ l.length + 1
  | [], x => Nat.le_refl _
  | y :: l, x => by
    rw [putT]
    split
    · have := putT_len l x; simp; omega
    · split <;> simp
theorem putT_all {p : ByteArray → Prop} : ∀ {l : List ByteArray} {x : ByteArray}, (∀ y ∈ l, p y) → p x → ∀ y ∈ putT l x, p y
  | [], x, _, hx, y, hy => by rw [putT] at hy; rw [List.mem_singleton.1 hy]; exact hx
  | z :: l, x, h, hx, y, hy => by
    rw [putT] at hy
    have hz := h z List.mem_cons_self
    have hl : ∀ y ∈ l, p y := fun y hy => h y (List.mem_cons_of_mem _ hy)
    split at hy
    · rcases List.mem_cons.1 hy with rfl | hy
      · exact hz
      · exact putT_all hl hx y hy
    · split at hy
      · rcases List.mem_cons.1 hy with rfl | hy
        · exact hx
        · exact h y hy
      · exact h y hy
/-- What is still to be put. -/
def restT (pb : Bool) (l : List ByteArray) (x : ByteArray) : List ByteArray := if pb = true then l else putT l x
set_option maxHeartbeats 16000000 in
set_option maxRecDepth 10000 in
theorem l10Put_hp (A : Option Addr) (n c : Nat) (us : List ByteArray) (x : ByteArray) (w : World) (hr : Rd w w.heap.size 1 A n c (us.flatMap encStr)) (hn : us.length = n) (hb20 : n ≤ 1048576) :
    Calls Tryd.prog 52 #[.slice A n c, .string x] w fun e w' => ∃ A' c', e = .returned (.slice A' (putT us x).length c') ∧ Hp w w' [rStr A' c' (putT us x)] := by
  obtain ⟨i0, hi0, hz0, hz1, hz2⟩ := info_parts Tryd.infoStr
  have hc := hr.2.1
  have hm := hr.2.2.1
  unfold maxLen at hm
  have H := Hp.nil w
  go_enter Tryd.func52, Tryd.ntmps52
  go_wp2_with fail
  have HH := Lib.hid H; clear H
  go_loopw [7, 6, 5] (fun i p s wr => ∃ k : Nat, k ≤ n ∧ i = .int .i64 k ∧ ∃ pb, p = .bool pb ∧ ∃ (A' : Option Addr) (c' : Nat) (ts : List ByteArray), s = .slice A' ts.length c' ∧ Hid (putT us x = ts ++ restT pb (us.drop k) x) ∧ Hid (ts.length ≤ k + pb.toNat) ∧ Hid (Hp w wr [rStr A' c' ts])) (fun i _ _ _ => n - (intOf i).toNat)
  case atStart =>
    have H := HH.out
    exact ⟨0, Nat.zero_le _, rfl, false, rfl, some ⟨w.heap.size, 0, none⟩, 0, [], rfl, by show _ = _; rfl, Nat.zero_le _, Lib.hid (Hp.into (by repeat (first | (with_reducible exact H) | (with_reducible apply Hp.alloc) | (with_reducible apply Hp.set) | (with_reducible apply Hp.drew) | (with_reducible apply Hp.drewN) | (with_reducible apply Hp.bytesW) | (with_reducible exact Upd.here) | (with_reducible exact Upd.hereR) | (with_reducible apply Upd.there) | (with_reducible apply Sz.alloc) | (with_reducible apply Sz.set) | (with_reducible apply Sz.drew) | (with_reducible apply Sz.drewN) | (with_reducible apply Sz.bytesW) | (with_reducible assumption) | (with_reducible exact Sz.base _))) Hp.boxNilS)⟩
  case round =>
    clear HH
    obtain ⟨k, hk, rfl, pb, rfl, A', c', ts, rfl, HE, HTL, HP⟩ := hrel
    have H := HP.out
    have F := H.facts; simp only [Facts, NeF, box, row, reg, cellsF, rStr, ne_eq, true_and, and_true, Nat.reduceAdd, Nat.zero_add] at F
    have htl : ts.length ≤ k + 1 := Nat.le_trans HTL.out (Nat.add_le_add_left (by cases pb <;> decide) k)
    have hl : ts.length + 1 ≤ maxLen := by unfold maxLen; omega
    have hl2 : ts.length ≤ 1048577 := by omega
    by_cases hlt : k < n
    · obtain ⟨b, off, rfl, hb, hcell⟩ := hr.elem encStr_len hn hlt
      have c0 := H.b.cell (p := ⟨b, off + k * 1 + 0, none⟩) hb |>.trans (hcell 0 _ rfl)
      simp only [Nat.add_zero, Nat.mul_one] at c0
      have HCK : Hid (∀ W : World, Below w.heap.size w W → W.cell? ⟨b, off + k, none⟩ = some (.string (us[k]'(by omega)))) := fun W h => by
        have := h.cell (p := ⟨b, off + k * 1 + 0, none⟩) hb |>.trans (hcell 0 _ rfl)
        simpa only [Nat.add_zero, Nat.mul_one] using this
      have hk1 : (k : Int) < (n : Int) := by omega
      have hk0 : (0 : Int) ≤ (k : Int) := by omega
      have HK1 : Hid (k + 1 ≤ n ∧ n - (k + 1) < n - k) := ⟨by omega, by omega⟩
      have hdr : us.drop k = (us[k]'(by omega)) :: us.drop (k + 1) := List.drop_eq_getElem_cons (by omega)
      rw [hdr] at HE
      have hbw : b < wr.heap.size := Nat.lt_of_lt_of_le hb H.b.size
      have hbe : ¬ b = wr.heap.size ∧ ¬ wr.heap.size = b := by omega
      clear hcell hdr htl
      generalize (us[k]'(by omega)) = y at *
      cases pb with
      | true =>
        have HN : Hid (putT us x = (ts ++ [y]) ++ restT true (us.drop (k + 1)) x) := by show _ = _; rw [HE.out]; simp [restT]
        go_wp2_with (at_builtin; refine wpList_append_lies _ (by rfl) _ _ 40 (by rfl) w.heap.size 9 i0 _ 1 _ Tryd.underlying40 hi0 hz0 hz1 hz2 (by rfl) (by decide) (.slice A' (ts.length) c') (ts.length) _ (by rfl) (Hp.rowM (by repeat (first | (with_reducible exact H) | (with_reducible apply Hp.alloc) | (with_reducible apply Hp.set) | (with_reducible apply Hp.drew) | (with_reducible apply Hp.drewN) | (with_reducible apply Hp.bytesW) | (with_reducible exact Upd.here) | (with_reducible exact Upd.hereR) | (with_reducible apply Upd.there) | (with_reducible apply Sz.alloc) | (with_reducible apply Sz.set) | (with_reducible apply Sz.drew) | (with_reducible apply Sz.drewN) | (with_reducible apply Sz.bytesW) | (with_reducible assumption) | (with_reducible exact Sz.base _))) (by repeat (first | (with_reducible exact List.mem_cons_self) | (with_reducible apply List.mem_cons_of_mem)))) ⟨wr.heap.size, 0, none⟩ 1 1 (encStr y) (by rfl) (by rfl) (Hp.news (by repeat (first | (with_reducible exact H) | (with_reducible apply Hp.alloc) | (with_reducible apply Hp.set) | (with_reducible apply Hp.drew) | (with_reducible apply Hp.drewN) | (with_reducible apply Hp.bytesW) | (with_reducible exact Upd.here) | (with_reducible exact Upd.hereR) | (with_reducible apply Upd.there) | (with_reducible apply Sz.alloc) | (with_reducible apply Sz.set) | (with_reducible apply Sz.drew) | (with_reducible apply Sz.drewN) | (with_reducible apply Sz.bytesW) | (with_reducible assumption) | (with_reducible exact Sz.base _))) 0 (by rfl)) (oneStr y) (by decide) hl (by omega) (Hp.b (by repeat (first | (with_reducible exact H) | (with_reducible apply Hp.alloc) | (with_reducible apply Hp.set) | (with_reducible apply Hp.drew) | (with_reducible apply Hp.drewN) | (with_reducible apply Hp.bytesW) | (with_reducible exact Upd.here) | (with_reducible exact Upd.hereR) | (with_reducible apply Upd.there) | (with_reducible apply Sz.alloc) | (with_reducible apply Sz.set) | (with_reducible apply Sz.drew) | (with_reducible apply Sz.drewN) | (with_reducible apply Sz.bytesW) | (with_reducible assumption) | (with_reducible exact Sz.base _)))).size _ rfl ?_; intro g cap wa hown hgrow hat hlt1; have H5 := Hp.appM (by repeat (first | (with_reducible exact H) | (with_reducible apply Hp.alloc) | (with_reducible apply Hp.set) | (with_reducible apply Hp.drew) | (with_reducible apply Hp.drewN) | (with_reducible apply Hp.bytesW) | (with_reducible exact Upd.here) | (with_reducible exact Upd.hereR) | (with_reducible apply Upd.there) | (with_reducible apply Sz.alloc) | (with_reducible apply Sz.set) | (with_reducible apply Sz.drew) | (with_reducible apply Sz.drewN) | (with_reducible apply Sz.bytesW) | (with_reducible assumption) | (with_reducible exact Sz.base _))) (by repeat (first | (with_reducible exact Rep.here) | (with_reducible apply Rep.there))) hown hgrow hat rfl hlt1; (try simp only [List.set_cons_zero, List.set_cons_succ, List.cons_append, List.nil_append] at H5); have FA := H5.facts; simp only [Facts, NeF, box, row, reg, cellsF, rStr, ne_eq, true_and, and_true, Nat.reduceAdd, Nat.zero_add] at FA)
        rw [rStr_snoc] at H5
        go_roundw
        case rel =>
          refine ⟨k + 1, HK1.out.1, by go_num, true, rfl, some ⟨g, 0, none⟩, cap, ts ++ [y], by (try rw [List.length_append]); rfl, HN, by show _ ≤ _; (try rw [List.length_append]); (try rw [List.length_append]); (try simp only [List.length_cons, List.length_nil, Bool.toNat_true, Bool.toNat_false]); have := HTL.out; (try simp only [Bool.toNat_true, Bool.toNat_false] at this); omega, Lib.hid (Hp.sel (by repeat (first | (with_reducible exact H5) | (with_reducible apply Hp.alloc) | (with_reducible apply Hp.set) | (with_reducible apply Hp.drew) | (with_reducible apply Hp.drewN) | (with_reducible apply Hp.bytesW) | (with_reducible exact Upd.here) | (with_reducible exact Upd.hereR) | (with_reducible apply Upd.there) | (with_reducible apply Sz.alloc) | (with_reducible apply Sz.set) | (with_reducible apply Sz.drew) | (with_reducible apply Sz.drewN) | (with_reducible apply Sz.bytesW) | (with_reducible assumption) | (with_reducible exact Sz.base _))) ?_)⟩
          (try simp only [List.set_cons_zero, List.set_cons_succ])
          (repeat (first | (with_reducible exact Sel.nil) | (with_reducible apply Sel.cons) | (with_reducible exact Del.here) | (with_reducible apply Del.there))); (try (refine Sel.tl ?_; (repeat (first | (with_reducible exact Tl.here) | (with_reducible apply Tl.there)))))
        case measure => have := HK1.out.2; simp [intOf]; omega
      | false =>
      cases h1 : ltS y x with
      | true =>
        have HN : Hid (putT us x = (ts ++ [y]) ++ restT false (us.drop (k + 1)) x) := by show _ = _; rw [HE.out]; simp [restT, putT, h1]
        have h2 := ltS_asymm h1
        have h3 : eqB x y = false := by
          cases h : eqB x y with
          | false => rfl
          | true => rw [eqB_iff.1 h, ltS_irrefl] at h1; cases h1
        unfold ltS at h1 h2
        unfold eqB at h3
        go_wp2_with (at_builtin; refine wpList_append_lies _ (by rfl) _ _ 40 (by rfl) w.heap.size 9 i0 _ 1 _ Tryd.underlying40 hi0 hz0 hz1 hz2 (by rfl) (by decide) (.slice A' (ts.length) c') (ts.length) _ (by rfl) (Hp.rowM (by repeat (first | (with_reducible exact H) | (with_reducible apply Hp.alloc) | (with_reducible apply Hp.set) | (with_reducible apply Hp.drew) | (with_reducible apply Hp.drewN) | (with_reducible apply Hp.bytesW) | (with_reducible exact Upd.here) | (with_reducible exact Upd.hereR) | (with_reducible apply Upd.there) | (with_reducible apply Sz.alloc) | (with_reducible apply Sz.set) | (with_reducible apply Sz.drew) | (with_reducible apply Sz.drewN) | (with_reducible apply Sz.bytesW) | (with_reducible assumption) | (with_reducible exact Sz.base _))) (by repeat (first | (with_reducible exact List.mem_cons_self) | (with_reducible apply List.mem_cons_of_mem)))) ⟨wr.heap.size, 0, none⟩ 1 1 (encStr y) (by rfl) (by rfl) (Hp.news (by repeat (first | (with_reducible exact H) | (with_reducible apply Hp.alloc) | (with_reducible apply Hp.set) | (with_reducible apply Hp.drew) | (with_reducible apply Hp.drewN) | (with_reducible apply Hp.bytesW) | (with_reducible exact Upd.here) | (with_reducible exact Upd.hereR) | (with_reducible apply Upd.there) | (with_reducible apply Sz.alloc) | (with_reducible apply Sz.set) | (with_reducible apply Sz.drew) | (with_reducible apply Sz.drewN) | (with_reducible apply Sz.bytesW) | (with_reducible assumption) | (with_reducible exact Sz.base _))) 0 (by rfl)) (oneStr y) (by decide) hl (by omega) (Hp.b (by repeat (first | (with_reducible exact H) | (with_reducible apply Hp.alloc) | (with_reducible apply Hp.set) | (with_reducible apply Hp.drew) | (with_reducible apply Hp.drewN) | (with_reducible apply Hp.bytesW) | (with_reducible exact Upd.here) | (with_reducible exact Upd.hereR) | (with_reducible apply Upd.there) | (with_reducible apply Sz.alloc) | (with_reducible apply Sz.set) | (with_reducible apply Sz.drew) | (with_reducible apply Sz.drewN) | (with_reducible apply Sz.bytesW) | (with_reducible assumption) | (with_reducible exact Sz.base _)))).size _ rfl ?_; intro g cap wa hown hgrow hat hlt1; have H5 := Hp.appM (by repeat (first | (with_reducible exact H) | (with_reducible apply Hp.alloc) | (with_reducible apply Hp.set) | (with_reducible apply Hp.drew) | (with_reducible apply Hp.drewN) | (with_reducible apply Hp.bytesW) | (with_reducible exact Upd.here) | (with_reducible exact Upd.hereR) | (with_reducible apply Upd.there) | (with_reducible apply Sz.alloc) | (with_reducible apply Sz.set) | (with_reducible apply Sz.drew) | (with_reducible apply Sz.drewN) | (with_reducible apply Sz.bytesW) | (with_reducible assumption) | (with_reducible exact Sz.base _))) (by repeat (first | (with_reducible exact Rep.here) | (with_reducible apply Rep.there))) hown hgrow hat rfl hlt1; (try simp only [List.set_cons_zero, List.set_cons_succ, List.cons_append, List.nil_append] at H5); have FA := H5.facts; simp only [Facts, NeF, box, row, reg, cellsF, rStr, ne_eq, true_and, and_true, Nat.reduceAdd, Nat.zero_add] at FA)
        rw [rStr_snoc] at H5
        go_roundw
        case rel =>
          refine ⟨k + 1, HK1.out.1, by go_num, false, rfl, some ⟨g, 0, none⟩, cap, ts ++ [y], by (try rw [List.length_append]); rfl, HN, by show _ ≤ _; (try rw [List.length_append]); (try rw [List.length_append]); (try simp only [List.length_cons, List.length_nil, Bool.toNat_true, Bool.toNat_false]); have := HTL.out; (try simp only [Bool.toNat_true, Bool.toNat_false] at this); omega, Lib.hid (Hp.sel (by repeat (first | (with_reducible exact H5) | (with_reducible apply Hp.alloc) | (with_reducible apply Hp.set) | (with_reducible apply Hp.drew) | (with_reducible apply Hp.drewN) | (with_reducible apply Hp.bytesW) | (with_reducible exact Upd.here) | (with_reducible exact Upd.hereR) | (with_reducible apply Upd.there) | (with_reducible apply Sz.alloc) | (with_reducible apply Sz.set) | (with_reducible apply Sz.drew) | (with_reducible apply Sz.drewN) | (with_reducible apply Sz.bytesW) | (with_reducible assumption) | (with_reducible exact Sz.base _))) ?_)⟩
          (try simp only [List.set_cons_zero, List.set_cons_succ])
          (repeat (first | (with_reducible exact Sel.nil) | (with_reducible apply Sel.cons) | (with_reducible exact Del.here) | (with_reducible apply Del.there))); (try (refine Sel.tl ?_; (repeat (first | (with_reducible exact Tl.here) | (with_reducible apply Tl.there)))))
        case measure => have := HK1.out.2; simp [intOf]; omega
      | false =>
      cases h2 : ltS x y with
      | true =>
        have HN : Hid (putT us x = (ts ++ [x] ++ [y]) ++ restT true (us.drop (k + 1)) x) := by show _ = _; rw [HE.out]; simp [restT, putT, h1, h2]
        unfold ltS at h1 h2
        go_upto_region 9 with (at_builtin; refine wpList_append_lies _ (by rfl) _ _ 40 (by rfl) w.heap.size 9 i0 _ 1 _ Tryd.underlying40 hi0 hz0 hz1 hz2 (by rfl) (by decide) (.slice A' (ts.length) c') (ts.length) _ (by rfl) (Hp.rowM (by repeat (first | (with_reducible exact H) | (with_reducible apply Hp.alloc) | (with_reducible apply Hp.set) | (with_reducible apply Hp.drew) | (with_reducible apply Hp.drewN) | (with_reducible apply Hp.bytesW) | (with_reducible exact Upd.here) | (with_reducible exact Upd.hereR) | (with_reducible apply Upd.there) | (with_reducible apply Sz.alloc) | (with_reducible apply Sz.set) | (with_reducible apply Sz.drew) | (with_reducible apply Sz.drewN) | (with_reducible apply Sz.bytesW) | (with_reducible assumption) | (with_reducible exact Sz.base _))) (by repeat (first | (with_reducible exact List.mem_cons_self) | (with_reducible apply List.mem_cons_of_mem)))) ⟨wr.heap.size, 0, none⟩ 1 1 (encStr x) (by rfl) (by rfl) (Hp.news (by repeat (first | (with_reducible exact H) | (with_reducible apply Hp.alloc) | (with_reducible apply Hp.set) | (with_reducible apply Hp.drew) | (with_reducible apply Hp.drewN) | (with_reducible apply Hp.bytesW) | (with_reducible exact Upd.here) | (with_reducible exact Upd.hereR) | (with_reducible apply Upd.there) | (with_reducible apply Sz.alloc) | (with_reducible apply Sz.set) | (with_reducible apply Sz.drew) | (with_reducible apply Sz.drewN) | (with_reducible apply Sz.bytesW) | (with_reducible assumption) | (with_reducible exact Sz.base _))) 0 (by rfl)) (oneStr x) (by decide) hl (by omega) (Hp.b (by repeat (first | (with_reducible exact H) | (with_reducible apply Hp.alloc) | (with_reducible apply Hp.set) | (with_reducible apply Hp.drew) | (with_reducible apply Hp.drewN) | (with_reducible apply Hp.bytesW) | (with_reducible exact Upd.here) | (with_reducible exact Upd.hereR) | (with_reducible apply Upd.there) | (with_reducible apply Sz.alloc) | (with_reducible apply Sz.set) | (with_reducible apply Sz.drew) | (with_reducible apply Sz.drewN) | (with_reducible apply Sz.bytesW) | (with_reducible assumption) | (with_reducible exact Sz.base _)))).size _ rfl ?_; intro g cap wa hown hgrow hat hlt1; have H5 := Hp.appM (by repeat (first | (with_reducible exact H) | (with_reducible apply Hp.alloc) | (with_reducible apply Hp.set) | (with_reducible apply Hp.drew) | (with_reducible apply Hp.drewN) | (with_reducible apply Hp.bytesW) | (with_reducible exact Upd.here) | (with_reducible exact Upd.hereR) | (with_reducible apply Upd.there) | (with_reducible apply Sz.alloc) | (with_reducible apply Sz.set) | (with_reducible apply Sz.drew) | (with_reducible apply Sz.drewN) | (with_reducible apply Sz.bytesW) | (with_reducible assumption) | (with_reducible exact Sz.base _))) (by repeat (first | (with_reducible exact Rep.here) | (with_reducible apply Rep.there))) hown hgrow hat rfl hlt1; (try simp only [List.set_cons_zero, List.set_cons_succ, List.cons_append, List.nil_append] at H5); have FA := H5.facts; simp only [Facts, NeF, box, row, reg, cellsF, rStr, ne_eq, true_and, and_true, Nat.reduceAdd, Nat.zero_add] at FA)
        rw [rStr_snoc] at H5
        obtain ⟨g1, rfl⟩ : ∃ z, z = g := ⟨g, rfl⟩
        obtain ⟨cap1, rfl⟩ : ∃ z, z = cap := ⟨cap, rfl⟩
        obtain ⟨wb, rfl⟩ : ∃ z, z = wa := ⟨wa, rfl⟩
        clear hown hgrow hat hlt1 FA F H HP
        have H6 : Hp w wb [rStr (some ⟨g1, 0, none⟩) cap1 (ts ++ [x])] := (by refine Hp.sel (by repeat (first | (with_reducible exact H5) | (with_reducible apply Hp.alloc) | (with_reducible apply Hp.set) | (with_reducible apply Hp.drew) | (with_reducible apply Hp.drewN) | (with_reducible apply Hp.bytesW) | (with_reducible exact Upd.here) | (with_reducible exact Upd.hereR) | (with_reducible apply Upd.there) | (with_reducible apply Sz.alloc) | (with_reducible apply Sz.set) | (with_reducible apply Sz.drew) | (with_reducible apply Sz.drewN) | (with_reducible apply Sz.bytesW) | (with_reducible assumption) | (with_reducible exact Sz.base _))) ?_; (try simp only [List.set_cons_zero, List.set_cons_succ]); exact (by repeat (first | (with_reducible exact Sel.nil) | (with_reducible apply Sel.cons) | (with_reducible exact Del.here) | (with_reducible apply Del.there))))
        have c0 := HCK.out _ H6.b
        have hbw : b < wb.heap.size := Nat.lt_of_lt_of_le hb H6.b.size
        have hbe : ¬ b = wb.heap.size ∧ ¬ wb.heap.size = b := by omega
        have hl3 : (ts ++ [x]).length + 1 ≤ maxLen := by unfold maxLen; simp; omega
        have hl4 : (ts ++ [x]).length ≤ 1048578 := by simp; omega
        have hl9 : ts.length + 1 = (ts ++ [x]).length := by simp
        have HTL : Hid ((ts ++ [x]).length ≤ k + 1) := by show _ ≤ _; rw [List.length_append]; exact Nat.add_le_add_right HTL.out 1
        generalize ts ++ [x] = ts2 at *
        rw [hl9]
        clear hl9 H5
        have F := H6.facts; simp only [Facts, NeF, box, row, reg, cellsF, rStr, ne_eq, true_and, and_true, Nat.reduceAdd, Nat.zero_add] at F
        go_wp2_with (at_builtin; refine wpList_append_lies _ (by rfl) _ _ 40 (by rfl) w.heap.size 9 i0 _ 1 _ Tryd.underlying40 hi0 hz0 hz1 hz2 (by rfl) (by decide) (.slice (some ⟨g1, 0, none⟩) (ts2.length) cap1) (ts2.length) _ (by rfl) (Hp.rowM (by repeat (first | (with_reducible exact H6) | (with_reducible apply Hp.alloc) | (with_reducible apply Hp.set) | (with_reducible apply Hp.drew) | (with_reducible apply Hp.drewN) | (with_reducible apply Hp.bytesW) | (with_reducible exact Upd.here) | (with_reducible exact Upd.hereR) | (with_reducible apply Upd.there) | (with_reducible apply Sz.alloc) | (with_reducible apply Sz.set) | (with_reducible apply Sz.drew) | (with_reducible apply Sz.drewN) | (with_reducible apply Sz.bytesW) | (with_reducible assumption) | (with_reducible exact Sz.base _))) (by repeat (first | (with_reducible exact List.mem_cons_self) | (with_reducible apply List.mem_cons_of_mem)))) ⟨wb.heap.size, 0, none⟩ 1 1 (encStr y) (by rfl) (by rfl) (Hp.news (by repeat (first | (with_reducible exact H6) | (with_reducible apply Hp.alloc) | (with_reducible apply Hp.set) | (with_reducible apply Hp.drew) | (with_reducible apply Hp.drewN) | (with_reducible apply Hp.bytesW) | (with_reducible exact Upd.here) | (with_reducible exact Upd.hereR) | (with_reducible apply Upd.there) | (with_reducible apply Sz.alloc) | (with_reducible apply Sz.set) | (with_reducible apply Sz.drew) | (with_reducible apply Sz.drewN) | (with_reducible apply Sz.bytesW) | (with_reducible assumption) | (with_reducible exact Sz.base _))) 0 (by rfl)) (oneStr y) (by decide) hl3 (by omega) (Hp.b (by repeat (first | (with_reducible exact H6) | (with_reducible apply Hp.alloc) | (with_reducible apply Hp.set) | (with_reducible apply Hp.drew) | (with_reducible apply Hp.drewN) | (with_reducible apply Hp.bytesW) | (with_reducible exact Upd.here) | (with_reducible exact Upd.hereR) | (with_reducible apply Upd.there) | (with_reducible apply Sz.alloc) | (with_reducible apply Sz.set) | (with_reducible apply Sz.drew) | (with_reducible apply Sz.drewN) | (with_reducible apply Sz.bytesW) | (with_reducible assumption) | (with_reducible exact Sz.base _)))).size _ rfl ?_; intro g cap wa hown hgrow hat hlt1; have H7 := Hp.appM (by repeat (first | (with_reducible exact H6) | (with_reducible apply Hp.alloc) | (with_reducible apply Hp.set) | (with_reducible apply Hp.drew) | (with_reducible apply Hp.drewN) | (with_reducible apply Hp.bytesW) | (with_reducible exact Upd.here) | (with_reducible exact Upd.hereR) | (with_reducible apply Upd.there) | (with_reducible apply Sz.alloc) | (with_reducible apply Sz.set) | (with_reducible apply Sz.drew) | (with_reducible apply Sz.drewN) | (with_reducible apply Sz.bytesW) | (with_reducible assumption) | (with_reducible exact Sz.base _))) (by repeat (first | (with_reducible exact Rep.here) | (with_reducible apply Rep.there))) hown hgrow hat rfl hlt1; (try simp only [List.set_cons_zero, List.set_cons_succ, List.cons_append, List.nil_append] at H7); have FA := H7.facts; simp only [Facts, NeF, box, row, reg, cellsF, rStr, ne_eq, true_and, and_true, Nat.reduceAdd, Nat.zero_add] at FA)
        rw [rStr_snoc] at H7
        go_roundw
        case rel =>
          refine ⟨k + 1, HK1.out.1, by go_num, true, rfl, some ⟨g, 0, none⟩, cap, ts2 ++ [y], by (try rw [List.length_append]); rfl, HN, by show _ ≤ _; (try rw [List.length_append]); (try rw [List.length_append]); (try simp only [List.length_cons, List.length_nil, Bool.toNat_true, Bool.toNat_false]); have := HTL.out; (try simp only [Bool.toNat_true, Bool.toNat_false] at this); omega, Lib.hid (Hp.sel (by repeat (first | (with_reducible exact H7) | (with_reducible apply Hp.alloc) | (with_reducible apply Hp.set) | (with_reducible apply Hp.drew) | (with_reducible apply Hp.drewN) | (with_reducible apply Hp.bytesW) | (with_reducible exact Upd.here) | (with_reducible exact Upd.hereR) | (with_reducible apply Upd.there) | (with_reducible apply Sz.alloc) | (with_reducible apply Sz.set) | (with_reducible apply Sz.drew) | (with_reducible apply Sz.drewN) | (with_reducible apply Sz.bytesW) | (with_reducible assumption) | (with_reducible exact Sz.base _))) ?_)⟩
          (try simp only [List.set_cons_zero, List.set_cons_succ])
          (repeat (first | (with_reducible exact Sel.nil) | (with_reducible apply Sel.cons) | (with_reducible exact Del.here) | (with_reducible apply Del.there))); (try (refine Sel.tl ?_; (repeat (first | (with_reducible exact Tl.here) | (with_reducible apply Tl.there)))))
        case measure => have := HK1.out.2; simp [intOf]; omega
      | false =>
        have HN : Hid (putT us x = (ts ++ [y]) ++ restT true (us.drop (k + 1)) x) := by show _ = _; rw [HE.out]; simp [restT, putT, h1, h2]
        have h3 : eqB x y = true := by
          rcases ltS_tri x y with h | h | h
          · rw [h2] at h; cases h
          · exact eqB_iff.2 h
          · rw [h1] at h; cases h
        unfold ltS at h1 h2
        unfold eqB at h3
        go_wp2_with (at_builtin; refine wpList_append_lies _ (by rfl) _ _ 40 (by rfl) w.heap.size 9 i0 _ 1 _ Tryd.underlying40 hi0 hz0 hz1 hz2 (by rfl) (by decide) (.slice A' (ts.length) c') (ts.length) _ (by rfl) (Hp.rowM (by repeat (first | (with_reducible exact H) | (with_reducible apply Hp.alloc) | (with_reducible apply Hp.set) | (with_reducible apply Hp.drew) | (with_reducible apply Hp.drewN) | (with_reducible apply Hp.bytesW) | (with_reducible exact Upd.here) | (with_reducible exact Upd.hereR) | (with_reducible apply Upd.there) | (with_reducible apply Sz.alloc) | (with_reducible apply Sz.set) | (with_reducible apply Sz.drew) | (with_reducible apply Sz.drewN) | (with_reducible apply Sz.bytesW) | (with_reducible assumption) | (with_reducible exact Sz.base _))) (by repeat (first | (with_reducible exact List.mem_cons_self) | (with_reducible apply List.mem_cons_of_mem)))) ⟨wr.heap.size, 0, none⟩ 1 1 (encStr y) (by rfl) (by rfl) (Hp.news (by repeat (first | (with_reducible exact H) | (with_reducible apply Hp.alloc) | (with_reducible apply Hp.set) | (with_reducible apply Hp.drew) | (with_reducible apply Hp.drewN) | (with_reducible apply Hp.bytesW) | (with_reducible exact Upd.here) | (with_reducible exact Upd.hereR) | (with_reducible apply Upd.there) | (with_reducible apply Sz.alloc) | (with_reducible apply Sz.set) | (with_reducible apply Sz.drew) | (with_reducible apply Sz.drewN) | (with_reducible apply Sz.bytesW) | (with_reducible assumption) | (with_reducible exact Sz.base _))) 0 (by rfl)) (oneStr y) (by decide) hl (by omega) (Hp.b (by repeat (first | (with_reducible exact H) | (with_reducible apply Hp.alloc) | (with_reducible apply Hp.set) | (with_reducible apply Hp.drew) | (with_reducible apply Hp.drewN) | (with_reducible apply Hp.bytesW) | (with_reducible exact Upd.here) | (with_reducible exact Upd.hereR) | (with_reducible apply Upd.there) | (with_reducible apply Sz.alloc) | (with_reducible apply Sz.set) | (with_reducible apply Sz.drew) | (with_reducible apply Sz.drewN) | (with_reducible apply Sz.bytesW) | (with_reducible assumption) | (with_reducible exact Sz.base _)))).size _ rfl ?_; intro g cap wa hown hgrow hat hlt1; have H5 := Hp.appM (by repeat (first | (with_reducible exact H) | (with_reducible apply Hp.alloc) | (with_reducible apply Hp.set) | (with_reducible apply Hp.drew) | (with_reducible apply Hp.drewN) | (with_reducible apply Hp.bytesW) | (with_reducible exact Upd.here) | (with_reducible exact Upd.hereR) | (with_reducible apply Upd.there) | (with_reducible apply Sz.alloc) | (with_reducible apply Sz.set) | (with_reducible apply Sz.drew) | (with_reducible apply Sz.drewN) | (with_reducible apply Sz.bytesW) | (with_reducible assumption) | (with_reducible exact Sz.base _))) (by repeat (first | (with_reducible exact Rep.here) | (with_reducible apply Rep.there))) hown hgrow hat rfl hlt1; (try simp only [List.set_cons_zero, List.set_cons_succ, List.cons_append, List.nil_append] at H5); have FA := H5.facts; simp only [Facts, NeF, box, row, reg, cellsF, rStr, ne_eq, true_and, and_true, Nat.reduceAdd, Nat.zero_add] at FA)
        rw [rStr_snoc] at H5
        go_roundw
        case rel =>
          refine ⟨k + 1, HK1.out.1, by go_num, true, rfl, some ⟨g, 0, none⟩, cap, ts ++ [y], by (try rw [List.length_append]); rfl, HN, by show _ ≤ _; (try rw [List.length_append]); (try rw [List.length_append]); (try simp only [List.length_cons, List.length_nil, Bool.toNat_true, Bool.toNat_false]); have := HTL.out; (try simp only [Bool.toNat_true, Bool.toNat_false] at this); omega, Lib.hid (Hp.sel (by repeat (first | (with_reducible exact H5) | (with_reducible apply Hp.alloc) | (with_reducible apply Hp.set) | (with_reducible apply Hp.drew) | (with_reducible apply Hp.drewN) | (with_reducible apply Hp.bytesW) | (with_reducible exact Upd.here) | (with_reducible exact Upd.hereR) | (with_reducible apply Upd.there) | (with_reducible apply Sz.alloc) | (with_reducible apply Sz.set) | (with_reducible apply Sz.drew) | (with_reducible apply Sz.drewN) | (with_reducible apply Sz.bytesW) | (with_reducible assumption) | (with_reducible exact Sz.base _))) ?_)⟩
          (try simp only [List.set_cons_zero, List.set_cons_succ])
          (repeat (first | (with_reducible exact Sel.nil) | (with_reducible apply Sel.cons) | (with_reducible exact Del.here) | (with_reducible apply Del.there))); (try (refine Sel.tl ?_; (repeat (first | (with_reducible exact Tl.here) | (with_reducible apply Tl.there)))))
        case measure => have := HK1.out.2; simp [intOf]; omega
    · have hk1 : ¬ (k : Int) < (n : Int) := by omega
      have hd0 : us.drop k = [] := List.drop_eq_nil_of_le (by omega)
      rw [hd0] at HE
      cases pb with
      | true =>
        have HN : Hid (putT us x = ts) := by show _ = _; rw [HE.out]; simp [restT]
        clear hd0
        go_wp2_with fail
        go_ret
        exact ⟨A', c', by rw [HN.out]; rfl, by rw [HN.out]; exact H⟩
      | false =>
        have HN : Hid (putT us x = ts ++ [x]) := by show _ = _; rw [HE.out]; simp [restT, putT]
        clear hd0
        go_wp2_with (at_builtin; refine wpList_append_lies _ (by rfl) _ _ 40 (by rfl) w.heap.size 9 i0 _ 1 _ Tryd.underlying40 hi0 hz0 hz1 hz2 (by rfl) (by decide) (.slice A' (ts.length) c') (ts.length) _ (by rfl) (Hp.rowM (by repeat (first | (with_reducible exact H) | (with_reducible apply Hp.alloc) | (with_reducible apply Hp.set) | (with_reducible apply Hp.drew) | (with_reducible apply Hp.drewN) | (with_reducible apply Hp.bytesW) | (with_reducible exact Upd.here) | (with_reducible exact Upd.hereR) | (with_reducible apply Upd.there) | (with_reducible apply Sz.alloc) | (with_reducible apply Sz.set) | (with_reducible apply Sz.drew) | (with_reducible apply Sz.drewN) | (with_reducible apply Sz.bytesW) | (with_reducible assumption) | (with_reducible exact Sz.base _))) (by repeat (first | (with_reducible exact List.mem_cons_self) | (with_reducible apply List.mem_cons_of_mem)))) ⟨wr.heap.size, 0, none⟩ 1 1 (encStr x) (by rfl) (by rfl) (Hp.news (by repeat (first | (with_reducible exact H) | (with_reducible apply Hp.alloc) | (with_reducible apply Hp.set) | (with_reducible apply Hp.drew) | (with_reducible apply Hp.drewN) | (with_reducible apply Hp.bytesW) | (with_reducible exact Upd.here) | (with_reducible exact Upd.hereR) | (with_reducible apply Upd.there) | (with_reducible apply Sz.alloc) | (with_reducible apply Sz.set) | (with_reducible apply Sz.drew) | (with_reducible apply Sz.drewN) | (with_reducible apply Sz.bytesW) | (with_reducible assumption) | (with_reducible exact Sz.base _))) 0 (by rfl)) (oneStr x) (by decide) hl (by omega) (Hp.b (by repeat (first | (with_reducible exact H) | (with_reducible apply Hp.alloc) | (with_reducible apply Hp.set) | (with_reducible apply Hp.drew) | (with_reducible apply Hp.drewN) | (with_reducible apply Hp.bytesW) | (with_reducible exact Upd.here) | (with_reducible exact Upd.hereR) | (with_reducible apply Upd.there) | (with_reducible apply Sz.alloc) | (with_reducible apply Sz.set) | (with_reducible apply Sz.drew) | (with_reducible apply Sz.drewN) | (with_reducible apply Sz.bytesW) | (with_reducible assumption) | (with_reducible exact Sz.base _)))).size _ rfl ?_; intro g cap wa hown hgrow hat hlt1; have H5 := Hp.appM (by repeat (first | (with_reducible exact H) | (with_reducible apply Hp.alloc) | (with_reducible apply Hp.set) | (with_reducible apply Hp.drew) | (with_reducible apply Hp.drewN) | (with_reducible apply Hp.bytesW) | (with_reducible exact Upd.here) | (with_reducible exact Upd.hereR) | (with_reducible apply Upd.there) | (with_reducible apply Sz.alloc) | (with_reducible apply Sz.set) | (with_reducible apply Sz.drew) | (with_reducible apply Sz.drewN) | (with_reducible apply Sz.bytesW) | (with_reducible assumption) | (with_reducible exact Sz.base _))) (by repeat (first | (with_reducible exact Rep.here) | (with_reducible apply Rep.there))) hown hgrow hat rfl hlt1; (try simp only [List.set_cons_zero, List.set_cons_succ, List.cons_append, List.nil_append] at H5); have FA := H5.facts; simp only [Facts, NeF, box, row, reg, cellsF, rStr, ne_eq, true_and, and_true, Nat.reduceAdd, Nat.zero_add] at FA)
        rw [rStr_snoc] at H5
        go_ret
        exact ⟨some ⟨g, 0, none⟩, cap, by rw [HN.out, List.length_append]; rfl, by rw [HN.out]; exact (by refine Hp.sel (by repeat (first | (with_reducible exact H5) | (with_reducible apply Hp.alloc) | (with_reducible apply Hp.set) | (with_reducible apply Hp.drew) | (with_reducible apply Hp.drewN) | (with_reducible apply Hp.bytesW) | (with_reducible exact Upd.here) | (with_reducible exact Upd.hereR) | (with_reducible apply Upd.there) | (with_reducible apply Sz.alloc) | (with_reducible apply Sz.set) | (with_reducible apply Sz.drew) | (with_reducible apply Sz.drewN) | (with_reducible apply Sz.bytesW) | (with_reducible assumption) | (with_reducible exact Sz.base _))) ?_; (try simp only [List.set_cons_zero, List.set_cons_succ]); exact (by repeat (first | (with_reducible exact Sel.nil) | (with_reducible apply Sel.cons) | (with_reducible exact Del.here) | (with_reducible apply Del.there))))⟩
end Go.Proofs.YtklmcbabpncfmaaDoor

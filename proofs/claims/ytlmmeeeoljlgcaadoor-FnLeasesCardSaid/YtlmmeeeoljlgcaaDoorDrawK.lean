/- Draws of books of leases. No condition. -/
import Derived.Test.YtlmmeeeoljlgcaaDoorDrawB
import Derived.Test.YtlmmeeeoljlgcaaDoorSortM
import Derived.Deep.DeepCutAuto
set_option linter.unusedVariables false
set_option linter.unusedSimpArgs false
namespace Go.Proofs.YtlmmeeeoljlgcaaDoor
open Go.RowKit
set_option linter.unusedVariables false
set_option linter.unusedSimpArgs false
theorem rowGb {w : World} {B k n c : Nat} {e : TypeId} {A : Option Addr} {xs : List Value} (h : w.ownsRow B e k (.slice A n c) n xs) (h0 : 0 < n) : ∃ g, A = some ⟨g, 0, none⟩ := by
  rcases h.2 with ⟨e1, e2⟩ | ⟨g, cap, cur, e1, _⟩
  · omega
  · injection e1 with e1 _ _; exact ⟨g, e1⟩
theorem Hp.ne_rowK {w0 w : World} {L : List Ent} {f g n c m k : Nat} {t e : TypeId} {cs xs : List Value} (H : Hp w0 w L) (h : Sel L [box f t cs, row e k (.slice (some ⟨g, 0, none⟩) n c) m xs]) : ¬ g = f ∧ ¬ f = g := by
  have h2 := (List.pairwise_cons.1 (H.sel h).ap).1 _ List.mem_cons_self
  have h3 : ¬ g = f := fun e1 => h2 f rfl (by show (Value.slice (some ⟨g, 0, none⟩) n c).ownBlock = some f; rw [← e1]; rfl)
  exact ⟨h3, fun e1 => h3 e1.symm⟩
theorem Hp.intoK {w0 w : World} {L R : List Ent} (H : Hp w0 w L) (h : Hp w0 w L → Hp w0 w R) : Hp w0 w R := h H
theorem call_atK {P : Program} {f : Nat} {args : Array Value} {w0 w : World} {L : List Ent} {Q : Ending → World → Prop} (H : Hp w0 w L) (k : Hp w0 w L → Calls P f args w Q) : Calls P f args w Q := k H
theorem wp_atK {P : Program} {c : Code} {Q : Exit → Act → World → Prop} {a : Act} {w0 w : World} {L : List Ent} (H : Hp w0 w L) (k : Hp w0 w L → Code.wp P c Q a w) : Code.wp P c Q a w := k H
theorem wp_genK {P : Program} {c : Code} {Q : Exit → Act → World → Prop} {a : Act} {w : World} (h : ∀ K' : Act → World → Prop, K' = (fun a w => Q .normal a w) → Code.wp P c (Exit.then K' Q) a w) : Code.wp P c Q a w := Code.wp_mono (fun e a w hh => by cases e <;> exact hh) (h _ rfl)
theorem all_snocB {us : List Lease} {u : Lease} (h : ∀ x ∈ us, LeaseB x) (hu : LeaseB u) : ∀ x ∈ us ++ [u], LeaseB x := by
  intro x hx
  rcases List.mem_append.1 hx with hx | hx
  · exact h x hx
  · rw [List.mem_singleton.1 hx]; exact hu
theorem all_setB {us : List Lease} {k : Nat} {u : Lease} (h : ∀ x ∈ us, LeaseB x) (hu : LeaseB u) : ∀ x ∈ us.set k u, LeaseB x := by
  intro x hx
  rcases List.mem_or_eq_of_mem_set hx with hx | rfl
  · exact h x hx
  · exact hu
set_option maxHeartbeats 16000000 in
set_option maxRecDepth 10000 in
theorem l09DrawBook_hp (b : Nat) (A : Option Addr) (n c : Nat) (bs : List UInt8) (w v : World) (X : Ent) (m : Nat) (hm9 : m ≤ 151) (H : Hp w v [curE b A n c, X]) (hr : Rd w w.heap.size 1 A n c (bs.flatMap encByte)) (hn : bs.length = n) :
    Calls Tryd.prog 64 #[.pointer (some ⟨b, 0, none⟩), .int .i64 m] v fun e w' => ∃ A1 d us, e = .returned (.agg #[.slice A1 us.length d]) ∧ us.length ≤ 151 ∧ (∀ u ∈ us, LeaseB u) ∧ Hp w w' [rLease A1 d us, curE b A n c, X] := by
  obtain ⟨i0, hi0, hz0, hz1, hz2⟩ := info_parts Tryd.infoLease
  have hm : curE b A n c ∈ [curE b A n c, X] := List.mem_cons_self
  go_enter Tryd.func64, Tryd.ntmps64
  go_wp2_with fail
  have HH := Lib.hid H; clear H
  go_loopw [6, 7] (fun s6 i wr => ∃ k : Nat, k ≤ m ∧ i = .int .i64 k ∧ ∃ (x : Int) (A1 : Option Addr) (d : Nat) (us : List Lease), s6 = .int .i64 x ∧ Hid (0 ≤ x ∧ x ≤ 3 * k) ∧ Hid (us.length = k ∧ ∀ u ∈ us, LeaseB u) ∧ Hid (Hp w wr [box (v.heap.size + 1) 28 [.slice A1 us.length d], rLease A1 d us, box v.heap.size 28 [.slice none 0 0], curE b A n c, X])) (fun _ i _ => m - (intOf i).toNat)
  case atStart =>
    have H := HH.out
    refine ⟨0, Nat.zero_le _, rfl, 0, none, 0, [], rfl, ⟨Int.le_refl _, by simp⟩, ⟨rfl, fun u hu => by cases hu⟩, Lib.hid (Hp.intoK (by repeat (first | (with_reducible exact H) | (with_reducible apply Hp.alloc) | (with_reducible apply Hp.set) | (with_reducible apply Hp.drew) | (with_reducible apply Hp.drewN) | (with_reducible apply Hp.bytesW) | (with_reducible exact Upd.here) | (with_reducible exact Upd.hereR) | (with_reducible apply Upd.there) | (with_reducible apply Sz.alloc) | (with_reducible apply Sz.set) | (with_reducible apply Sz.drew) | (with_reducible apply Sz.drewN) | (with_reducible apply Sz.bytesW) | (with_reducible assumption) | (with_reducible exact Sz.base _))) fun H1 => ?_)⟩
    have H2 := Hp.cons_nilRow H1 40 6
    have H3 : Hp w _ [box (v.heap.size + 1) 28 [.slice none 0 0], row 40 6 (.slice none 0 0) 0 [], box v.heap.size 28 [.slice none 0 0], curE b A n c, X] := (by refine Hp.sel (by repeat (first | (with_reducible exact H2) | (with_reducible apply Hp.alloc) | (with_reducible apply Hp.set) | (with_reducible apply Hp.drew) | (with_reducible apply Hp.drewN) | (with_reducible apply Hp.bytesW) | (with_reducible exact Upd.here) | (with_reducible exact Upd.hereR) | (with_reducible apply Upd.there) | (with_reducible apply Sz.alloc) | (with_reducible apply Sz.set) | (with_reducible apply Sz.drew) | (with_reducible apply Sz.drewN) | (with_reducible apply Sz.bytesW) | (with_reducible assumption) | (with_reducible exact Sz.base _))) ?_; (try simp only [List.set_cons_zero, List.set_cons_succ]); exact (by repeat (first | (with_reducible exact Sel.nil) | (with_reducible apply Sel.cons) | (with_reducible exact Del.here) | (with_reducible apply Del.there))))
    exact H3
  case round =>
    clear HH
    obtain ⟨k, hk, rfl, x, A1, d, us, rfl, HX, HU, HP⟩ := hrel
    have H := HP.out
    have F := H.facts; simp only [Facts, NeF, box, row, reg, cellsF, rLease, ne_eq, true_and, and_true, Nat.reduceAdd, Nat.zero_add] at F
    have hul : us.length ≤ 151 := by have := HU.out.1; omega
    by_cases hlt : k < m
    · have hk1 : (k : Int) < (m : Int) := by omega
      have hl1 : us.length + 1 ≤ maxLen := by unfold maxLen; omega
      have hw1 : IntKind.i64.wrap (x + 1) = x + 1 := by have := HX.out; rw [IntKind.wrap_i64]; omega
      have HK1 : Hid (k + 1 ≤ m ∧ m - (k + 1) < m - k) := ⟨by omega, by omega⟩
      go_wp2_with fail
      refine (l01Below_hp b A n c bs w _ _ _ (by repeat (first | (with_reducible exact H) | (with_reducible apply Hp.alloc) | (with_reducible apply Hp.set) | (with_reducible apply Hp.drew) | (with_reducible apply Hp.drewN) | (with_reducible apply Hp.bytesW) | (with_reducible exact Upd.here) | (with_reducible exact Upd.hereR) | (with_reducible apply Upd.there) | (with_reducible apply Sz.alloc) | (with_reducible apply Sz.set) | (with_reducible apply Sz.drew) | (with_reducible apply Sz.drewN) | (with_reducible apply Sz.bytesW) | (with_reducible assumption) | (with_reducible exact Sz.base _))) (by repeat (first | (with_reducible exact hm) | (with_reducible exact List.mem_cons_self) | (with_reducible apply List.mem_cons_of_mem))) hr hn (by omega) (by omega)).mono ?_
      rintro e w1 ⟨x1, rfl, hx1, H1⟩
      replace H := H1; clear H1; (try simp only [List.set_cons_zero, List.set_cons_succ, List.cons_append, List.nil_append] at H); (try clear F); have F := H.facts; simp only [Facts, NeF, box, row, reg, cellsF, rLease, ne_eq, true_and, and_true, Nat.reduceAdd, Nat.zero_add] at F
      obtain ⟨y, hy⟩ : ∃ y, x + 1 + x1 = y := ⟨_, rfl⟩
      have hw2 : IntKind.i64.wrap (x + 1 + x1) = y := by have := HX.out; rw [IntKind.wrap_i64]; omega
      have HX2 : Hid (0 ≤ y ∧ y ≤ 3 * ((k + 1 : Nat) : Int)) := by have := HX.out; exact ⟨by omega, by omega⟩
      clear hy hlt hx1
      go_upto_region 7 with fail
      go_region_law (first | (refine step_append_lies _ (by rfl) _ _ 26 (by rfl) w.heap.size 40 i0 _ 6 _ Tryd.underlying26 hi0 hz0 hz1 hz2 (by rfl) (by decide) (.slice A1 (us.length) d) (us.length) _ (by rfl) (Hp.rowM (by repeat (first | (with_reducible exact H) | (with_reducible apply Hp.alloc) | (with_reducible apply Hp.set) | (with_reducible apply Hp.drew) | (with_reducible apply Hp.drewN) | (with_reducible apply Hp.bytesW) | (with_reducible exact Upd.here) | (with_reducible exact Upd.hereR) | (with_reducible apply Upd.there) | (with_reducible apply Sz.alloc) | (with_reducible apply Sz.set) | (with_reducible apply Sz.drew) | (with_reducible apply Sz.drewN) | (with_reducible apply Sz.bytesW) | (with_reducible assumption) | (with_reducible exact Sz.base _))) (by repeat (first | (with_reducible exact List.mem_cons_self) | (with_reducible apply List.mem_cons_of_mem)))) ⟨wz2.heap.size, 0, none⟩ 1 1 (encLease l) (by rfl) (by rfl) (Hp.news (by repeat (first | (with_reducible exact H) | (with_reducible apply Hp.alloc) | (with_reducible apply Hp.set) | (with_reducible apply Hp.drew) | (with_reducible apply Hp.drewN) | (with_reducible apply Hp.bytesW) | (with_reducible exact Upd.here) | (with_reducible exact Upd.hereR) | (with_reducible apply Upd.there) | (with_reducible apply Sz.alloc) | (with_reducible apply Sz.set) | (with_reducible apply Sz.drew) | (with_reducible apply Sz.drewN) | (with_reducible apply Sz.bytesW) | (with_reducible assumption) | (with_reducible exact Sz.base _))) 0 (by rfl)) (oneLease l) (by decide) hl1 (by omega) (Hp.b (by repeat (first | (with_reducible exact H) | (with_reducible apply Hp.alloc) | (with_reducible apply Hp.set) | (with_reducible apply Hp.drew) | (with_reducible apply Hp.drewN) | (with_reducible apply Hp.bytesW) | (with_reducible exact Upd.here) | (with_reducible exact Upd.hereR) | (with_reducible apply Upd.there) | (with_reducible apply Sz.alloc) | (with_reducible apply Sz.set) | (with_reducible apply Sz.drew) | (with_reducible apply Sz.drewN) | (with_reducible apply Sz.bytesW) | (with_reducible assumption) | (with_reducible exact Sz.base _)))).size _ rfl ?_; intro g cap wa hown hgrow hat hlt1; have H5 := Hp.appM (by repeat (first | (with_reducible exact H) | (with_reducible apply Hp.alloc) | (with_reducible apply Hp.set) | (with_reducible apply Hp.drew) | (with_reducible apply Hp.drewN) | (with_reducible apply Hp.bytesW) | (with_reducible exact Upd.here) | (with_reducible exact Upd.hereR) | (with_reducible apply Upd.there) | (with_reducible apply Sz.alloc) | (with_reducible apply Sz.set) | (with_reducible apply Sz.drew) | (with_reducible apply Sz.drewN) | (with_reducible apply Sz.bytesW) | (with_reducible assumption) | (with_reducible exact Sz.base _))) (by repeat (first | (with_reducible exact Rep.here) | (with_reducible apply Rep.there))) hown hgrow hat rfl hlt1; (try simp only [List.set_cons_zero, List.set_cons_succ, List.cons_append, List.nil_append] at H5); have FA := H5.facts; simp only [Facts, NeF, box, row, reg, cellsF, rLease, ne_eq, true_and, and_true, Nat.reduceAdd, Nat.zero_add] at FA) | (go_simp; go_at_call 36; refine (l09DrawLease_hp b A n c bs w _ _ y (by repeat (first | (with_reducible exact H) | (with_reducible apply Hp.alloc) | (with_reducible apply Hp.set) | (with_reducible apply Hp.drew) | (with_reducible apply Hp.drewN) | (with_reducible apply Hp.bytesW) | (with_reducible exact Upd.here) | (with_reducible exact Upd.hereR) | (with_reducible apply Upd.there) | (with_reducible apply Sz.alloc) | (with_reducible apply Sz.set) | (with_reducible apply Sz.drew) | (with_reducible apply Sz.drewN) | (with_reducible apply Sz.bytesW) | (with_reducible assumption) | (with_reducible exact Sz.base _))) (by repeat (first | (with_reducible exact hm) | (with_reducible exact List.mem_cons_self) | (with_reducible apply List.mem_cons_of_mem))) hr hn).mono ?_; rintro e wz2 ⟨l, rfl, hlB, H2⟩; replace H := H2; clear H2; (try simp only [List.set_cons_zero, List.set_cons_succ, List.cons_append, List.nil_append] at H); (try clear F); have F := H.facts; simp only [Facts, NeF, box, row, reg, cellsF, rLease, ne_eq, true_and, and_true, Nat.reduceAdd, Nat.zero_add] at F))
      all_goals
        rw [rLease_snoc] at H5
        go_wp2_with fail
        go_roundw
        case rel => exact ⟨k + 1, HK1.out.1, by go_num, y, some ⟨g, 0, none⟩, cap, us ++ [l], rfl, HX2, ⟨by rw [List.length_append, HU.out.1]; rfl, all_snocB HU.out.2 hlB⟩, Lib.hid (by simpa using (by refine Hp.sel (by repeat (first | (with_reducible exact H5) | (with_reducible apply Hp.alloc) | (with_reducible apply Hp.set) | (with_reducible apply Hp.drew) | (with_reducible apply Hp.drewN) | (with_reducible apply Hp.bytesW) | (with_reducible exact Upd.here) | (with_reducible exact Upd.hereR) | (with_reducible apply Upd.there) | (with_reducible apply Sz.alloc) | (with_reducible apply Sz.set) | (with_reducible apply Sz.drew) | (with_reducible apply Sz.drewN) | (with_reducible apply Sz.bytesW) | (with_reducible assumption) | (with_reducible exact Sz.base _))) ?_; (try simp only [List.set_cons_zero, List.set_cons_succ]); exact (by repeat (first | (with_reducible exact Sel.nil) | (with_reducible apply Sel.cons) | (with_reducible exact Del.here) | (with_reducible apply Del.there)))))⟩
        case measure => have := HK1.out.2; simp [intOf]; omega
    · have hk1 : ¬ (k : Int) < (m : Int) := by omega
      have HUL : Hid (us.length = m) := by show _ = _; have := HU.out.1; omega
      clear hlt HX HP
      go_upto_region 8 with fail
      go_cut [33] (fun s wc => ∃ bb : Bool, s = .bool bb ∧ (bb = true → 0 < m) ∧ Hp w wc [box (v.heap.size + 1) 28 [.slice A1 us.length d], rLease A1 d us, box v.heap.size 28 [.slice none 0 0], curE b A n c, X])
      case first =>
        go_wp2_with fail
        refine (l01Once_hp b A n c bs w _ _ _ (by repeat (first | (with_reducible exact H) | (with_reducible apply Hp.alloc) | (with_reducible apply Hp.set) | (with_reducible apply Hp.drew) | (with_reducible apply Hp.drewN) | (with_reducible apply Hp.bytesW) | (with_reducible exact Upd.here) | (with_reducible exact Upd.hereR) | (with_reducible apply Upd.there) | (with_reducible apply Sz.alloc) | (with_reducible apply Sz.set) | (with_reducible apply Sz.drew) | (with_reducible apply Sz.drewN) | (with_reducible apply Sz.bytesW) | (with_reducible assumption) | (with_reducible exact Sz.base _))) (by repeat (first | (with_reducible exact hm) | (with_reducible exact List.mem_cons_self) | (with_reducible apply List.mem_cons_of_mem))) hr hn (by omega) (by omega)).mono ?_
        rintro e w4 ⟨x4, rfl, H1⟩
        replace H := H1; clear H1; (try simp only [List.set_cons_zero, List.set_cons_succ, List.cons_append, List.nil_append] at H); (try clear F); have F := H.facts; simp only [Facts, NeF, box, row, reg, cellsF, rLease, ne_eq, true_and, and_true, Nat.reduceAdd, Nat.zero_add] at F
        cases x4 with
        | false =>
          go_wp2_with fail
          go_meet
          exact ⟨false, rfl, fun h => (by cases h), (by refine Hp.sel (by repeat (first | (with_reducible exact H) | (with_reducible apply Hp.alloc) | (with_reducible apply Hp.set) | (with_reducible apply Hp.drew) | (with_reducible apply Hp.drewN) | (with_reducible apply Hp.bytesW) | (with_reducible exact Upd.here) | (with_reducible exact Upd.hereR) | (with_reducible apply Upd.there) | (with_reducible apply Sz.alloc) | (with_reducible apply Sz.set) | (with_reducible apply Sz.drew) | (with_reducible apply Sz.drewN) | (with_reducible apply Sz.bytesW) | (with_reducible assumption) | (with_reducible exact Sz.base _))) ?_; (try simp only [List.set_cons_zero, List.set_cons_succ]); exact (by repeat (first | (with_reducible exact Sel.nil) | (with_reducible apply Sel.cons) | (with_reducible exact Del.here) | (with_reducible apply Del.there))))⟩
        | true =>
          by_cases h0 : 0 < m
          · have h0d : decide ((0 : Int) < (m : Int)) = true := decide_eq_true (by omega)
            go_wp2_with fail
            go_meet
            exact ⟨true, rfl, fun _ => h0, (by refine Hp.sel (by repeat (first | (with_reducible exact H) | (with_reducible apply Hp.alloc) | (with_reducible apply Hp.set) | (with_reducible apply Hp.drew) | (with_reducible apply Hp.drewN) | (with_reducible apply Hp.bytesW) | (with_reducible exact Upd.here) | (with_reducible exact Upd.hereR) | (with_reducible apply Upd.there) | (with_reducible apply Sz.alloc) | (with_reducible apply Sz.set) | (with_reducible apply Sz.drew) | (with_reducible apply Sz.drewN) | (with_reducible apply Sz.bytesW) | (with_reducible assumption) | (with_reducible exact Sz.base _))) ?_; (try simp only [List.set_cons_zero, List.set_cons_succ]); exact (by repeat (first | (with_reducible exact Sel.nil) | (with_reducible apply Sel.cons) | (with_reducible exact Del.here) | (with_reducible apply Del.there))))⟩
          · have h0d : decide ((0 : Int) < (m : Int)) = false := decide_eq_false (by omega)
            go_wp2_with fail
            go_meet
            exact ⟨false, rfl, fun h => (by cases h), (by refine Hp.sel (by repeat (first | (with_reducible exact H) | (with_reducible apply Hp.alloc) | (with_reducible apply Hp.set) | (with_reducible apply Hp.drew) | (with_reducible apply Hp.drewN) | (with_reducible apply Hp.bytesW) | (with_reducible exact Upd.here) | (with_reducible exact Upd.hereR) | (with_reducible apply Upd.there) | (with_reducible apply Sz.alloc) | (with_reducible apply Sz.set) | (with_reducible apply Sz.drew) | (with_reducible apply Sz.drewN) | (with_reducible apply Sz.bytesW) | (with_reducible assumption) | (with_reducible exact Sz.base _))) ?_; (try simp only [List.set_cons_zero, List.set_cons_succ]); exact (by repeat (first | (with_reducible exact Sel.nil) | (with_reducible apply Sel.cons) | (with_reducible exact Del.here) | (with_reducible apply Del.there))))⟩
      case rest =>
      clear H F
      obtain ⟨bb, rfl, hbb, H⟩ := hcut
      have F := H.facts; simp only [Facts, NeF, box, row, reg, cellsF, rLease, ne_eq, true_and, and_true, Nat.reduceAdd, Nat.zero_add] at F
      cases bb with
      | false =>
        clear hbb
        go_wp2_with fail
        refine bodyPost_ret (v := .agg #[.slice A1 us.length d]) (by simp [results, Tryd.results64, go_sem, F]) rfl ⟨A1, d, us, rfl, by omega, HU.out.2, (by refine Hp.sel (by repeat (first | (with_reducible exact H) | (with_reducible apply Hp.alloc) | (with_reducible apply Hp.set) | (with_reducible apply Hp.drew) | (with_reducible apply Hp.drewN) | (with_reducible apply Hp.bytesW) | (with_reducible exact Upd.here) | (with_reducible exact Upd.hereR) | (with_reducible apply Upd.there) | (with_reducible apply Sz.alloc) | (with_reducible apply Sz.set) | (with_reducible apply Sz.drew) | (with_reducible apply Sz.drewN) | (with_reducible apply Sz.bytesW) | (with_reducible assumption) | (with_reducible exact Sz.base _))) ?_; (try simp only [List.set_cons_zero, List.set_cons_succ]); exact (by repeat (first | (with_reducible exact Sel.nil) | (with_reducible apply Sel.cons) | (with_reducible exact Del.here) | (with_reducible apply Del.there))))⟩
      | true =>
        have h0 := hbb rfl
        clear hbb
        obtain ⟨g0, rfl⟩ := rowGb (H.rowM (show rLease A1 d us ∈ _ from (by repeat (first | (with_reducible exact List.mem_cons_self) | (with_reducible apply List.mem_cons_of_mem))))) (by have := HUL.out; omega)
        go_wp2_with fail
        refine (l01Below_hp b A n c bs w _ _ _ (by repeat (first | (with_reducible exact H) | (with_reducible apply Hp.alloc) | (with_reducible apply Hp.set) | (with_reducible apply Hp.drew) | (with_reducible apply Hp.drewN) | (with_reducible apply Hp.bytesW) | (with_reducible exact Upd.here) | (with_reducible exact Upd.hereR) | (with_reducible apply Upd.there) | (with_reducible apply Sz.alloc) | (with_reducible apply Sz.set) | (with_reducible apply Sz.drew) | (with_reducible apply Sz.drewN) | (with_reducible apply Sz.bytesW) | (with_reducible assumption) | (with_reducible exact Sz.base _))) (by repeat (first | (with_reducible exact hm) | (with_reducible exact List.mem_cons_self) | (with_reducible apply List.mem_cons_of_mem))) hr hn (by omega) (by omega)).mono ?_
        rintro e w5 ⟨x5, rfl, hx5, H1⟩
        replace H := H1; clear H1; (try simp only [List.set_cons_zero, List.set_cons_succ, List.cons_append, List.nil_append] at H); (try clear F); have F := H.facts; simp only [Facts, NeF, box, row, reg, cellsF, rLease, ne_eq, true_and, and_true, Nat.reduceAdd, Nat.zero_add] at F
        obtain ⟨k2, rfl⟩ := Int.eq_ofNat_of_zero_le hx5.1
        have hk2 : k2 < us.length := by have := HUL.out; omega
        have hk2i : (k2 : Int) < (us.length : Int) := by omega
        have hk20 : (0 : Int) ≤ (k2 : Int) := by omega
        have hlB := HU.out.2 _ (List.getElem_mem hk2)
        have HCS : Hid (∀ (W : World) (M : List Ent), Hp w W M → rLease (some ⟨g0, 0, none⟩) d us ∈ M → _) := fun W M h hm9 => lsAt (n := us.length) h (show rLs (some ⟨g0, 0, none⟩) us.length d us ∈ M from hm9) rfl hk2
        have HFZ : Hid (∀ (W : World) (M : List Ent), Hp w W M → rLease (some ⟨g0, 0, none⟩) d us ∈ M → ∀ j, _) := fun W M h hm9 j => (h.rowM (show row 40 6 (.slice (some ⟨g0, 0, none⟩) us.length d) us.length (us.flatMap encLease) ∈ M from hm9)).frozenAt (g := g0) j
        have hgq := H.ne_rowK (f := v.heap.size + 1) (g := g0) (n := us.length) (c := d) (m := us.length) (k := 6) (e := 40) (xs := us.flatMap encLease) (by repeat (first | (with_reducible exact Sel.nil) | (with_reducible apply Sel.cons) | (with_reducible exact Del.here) | (with_reducible apply Del.there)))
        have hgr := H.ne_rowK (f := v.heap.size) (g := g0) (n := us.length) (c := d) (m := us.length) (k := 6) (e := 40) (xs := us.flatMap encLease) (by repeat (first | (with_reducible exact Sel.nil) | (with_reducible apply Sel.cons) | (with_reducible exact Del.here) | (with_reducible apply Del.there)))
        obtain ⟨d0, d1, d2, d3, d4, d5⟩ := HCS.out _ _ H (by repeat (first | (with_reducible exact List.mem_cons_self) | (with_reducible apply List.mem_cons_of_mem)))
        obtain ⟨l0, hl0⟩ : ∃ l, us[k2] = l := ⟨_, rfl⟩
        rw [hl0] at d0 d1 d2 d3 d4 d5 hlB HCS
        clear hx5 hl0
        have HSE : Hid (∀ l : Lease, row 40 6 (.slice (some ⟨g0, 0, none⟩) us.length d) us.length (((((((us.flatMap encLease).set (k2 * 6) (.int .i64 l.id)).set (k2 * 6 + 1) (.int .i64 l.token)).set (k2 * 6 + 2) (.string l.path)).set (k2 * 6 + 3) (.int .i64 l.made)).set (k2 * 6 + 4) (.int .i64 l.ends)).set (k2 * 6 + 5) (.int .i64 l.limit)) = rLs (some ⟨g0, 0, none⟩) us.length d (us.set k2 l)) := fun l => by rw [setL_flat us k2 hk2 l]
        go_upto_region 10 with fail
        refine wp_genK fun K9 hK9 => ?_
        go_cut [] (fun wc => ∃ us2 : List Lease, Hid (us2.length = us.length) ∧ Hid (∀ u ∈ us2, LeaseB u) ∧ Hp w wc [box (v.heap.size + 1) 28 [.slice (some ⟨g0, 0, none⟩) us.length d], rLs (some ⟨g0, 0, none⟩) us.length d us2, box v.heap.size 28 [.slice none 0 0], curE b A n c, X])
        case first =>
          go_region_law (first | (go_simp; go_at_call 38; refine (l09BendLease_hp b A n c bs w _ _ l0 hlB (by repeat (first | (with_reducible exact H) | (with_reducible apply Hp.alloc) | (with_reducible apply Hp.set) | (with_reducible apply Hp.drew) | (with_reducible apply Hp.drewN) | (with_reducible apply Hp.bytesW) | (with_reducible exact Upd.here) | (with_reducible exact Upd.hereR) | (with_reducible apply Upd.there) | (with_reducible apply Sz.alloc) | (with_reducible apply Sz.set) | (with_reducible apply Sz.drew) | (with_reducible apply Sz.drewN) | (with_reducible apply Sz.bytesW) | (with_reducible assumption) | (with_reducible exact Sz.base _))) (by repeat (first | (with_reducible exact hm) | (with_reducible exact List.mem_cons_self) | (with_reducible apply List.mem_cons_of_mem))) hr hn).mono ?_; rintro e wz2 ⟨l, rfl, hlC, H2⟩; replace H := H2; clear H2; (try simp only [List.set_cons_zero, List.set_cons_succ, List.cons_append, List.nil_append] at H); (try clear F); have F := H.facts; simp only [Facts, NeF, box, row, reg, cellsF, rLease, ne_eq, true_and, and_true, Nat.reduceAdd, Nat.zero_add] at F; obtain ⟨u0, u1, u2, u3, u4, u5⟩ := HCS.out _ _ H (by repeat (first | (with_reducible exact List.mem_cons_self) | (with_reducible apply List.mem_cons_of_mem))); have f0 := HFZ.out _ _ H (by repeat (first | (with_reducible exact List.mem_cons_self) | (with_reducible apply List.mem_cons_of_mem))) (k2 * 6); have f1 := HFZ.out _ _ H (by repeat (first | (with_reducible exact List.mem_cons_self) | (with_reducible apply List.mem_cons_of_mem))) (k2 * 6 + 1); have f2 := HFZ.out _ _ H (by repeat (first | (with_reducible exact List.mem_cons_self) | (with_reducible apply List.mem_cons_of_mem))) (k2 * 6 + 2); have f3 := HFZ.out _ _ H (by repeat (first | (with_reducible exact List.mem_cons_self) | (with_reducible apply List.mem_cons_of_mem))) (k2 * 6 + 3); have f4 := HFZ.out _ _ H (by repeat (first | (with_reducible exact List.mem_cons_self) | (with_reducible apply List.mem_cons_of_mem))) (k2 * 6 + 4); have f5 := HFZ.out _ _ H (by repeat (first | (with_reducible exact List.mem_cons_self) | (with_reducible apply List.mem_cons_of_mem))) (k2 * 6 + 5)))
          all_goals
            (try clear F)
            go_wp2_with fail
            go_meet
            exact ⟨us.set k2 l, List.length_set, all_setB HU.out.2 hlC, Hp.intoK (by repeat (first | (with_reducible exact H) | (with_reducible apply Hp.alloc) | (with_reducible apply Hp.set) | (with_reducible apply Hp.drew) | (with_reducible apply Hp.drewN) | (with_reducible apply Hp.bytesW) | (with_reducible exact Upd.here) | (with_reducible exact Upd.hereR) | (with_reducible apply Upd.there) | (with_reducible apply Sz.alloc) | (with_reducible apply Sz.set) | (with_reducible apply Sz.drew) | (with_reducible apply Sz.drewN) | (with_reducible apply Sz.bytesW) | (with_reducible assumption) | (with_reducible exact Sz.base _))) fun H9 => by
              rw [HSE.out l] at H9
              exact (by refine Hp.sel (by repeat (first | (with_reducible exact H9) | (with_reducible apply Hp.alloc) | (with_reducible apply Hp.set) | (with_reducible apply Hp.drew) | (with_reducible apply Hp.drewN) | (with_reducible apply Hp.bytesW) | (with_reducible exact Upd.here) | (with_reducible exact Upd.hereR) | (with_reducible apply Upd.there) | (with_reducible apply Sz.alloc) | (with_reducible apply Sz.set) | (with_reducible apply Sz.drew) | (with_reducible apply Sz.drewN) | (with_reducible apply Sz.bytesW) | (with_reducible assumption) | (with_reducible exact Sz.base _))) ?_; (try simp only [List.set_cons_zero, List.set_cons_succ]); exact (by repeat (first | (with_reducible exact Sel.nil) | (with_reducible apply Sel.cons) | (with_reducible exact Del.here) | (with_reducible apply Del.there))))⟩
        case rest =>
        clear H F hlB HCS HFZ hgq hgr d0 d1 d2 d3 d4 d5 HSE
        obtain ⟨us2, HL2, HB2, H⟩ := hcut
        subst hK9
        have F := H.facts; simp only [Facts, NeF, box, row, reg, cellsF, rLease, ne_eq, true_and, and_true, Nat.reduceAdd, Nat.zero_add] at F
        go_wp2_with fail
        refine bodyPost_ret (v := .agg #[.slice (some ⟨g0, 0, none⟩) us.length d]) (by simp [results, Tryd.results64, go_sem, F]) rfl ⟨some ⟨g0, 0, none⟩, d, us2, by rw [HL2.out], by rw [HL2.out]; omega, HB2.out, ?_⟩
        unfold rLease
        rw [HL2.out]
        exact (by refine Hp.sel (by repeat (first | (with_reducible exact H) | (with_reducible apply Hp.alloc) | (with_reducible apply Hp.set) | (with_reducible apply Hp.drew) | (with_reducible apply Hp.drewN) | (with_reducible apply Hp.bytesW) | (with_reducible exact Upd.here) | (with_reducible exact Upd.hereR) | (with_reducible apply Upd.there) | (with_reducible apply Sz.alloc) | (with_reducible apply Sz.set) | (with_reducible apply Sz.drew) | (with_reducible apply Sz.drewN) | (with_reducible apply Sz.bytesW) | (with_reducible assumption) | (with_reducible exact Sz.base _))) ?_; (try simp only [List.set_cons_zero, List.set_cons_succ]); exact (by repeat (first | (with_reducible exact Sel.nil) | (with_reducible apply Sel.cons) | (with_reducible exact Del.here) | (with_reducible apply Del.there))))
end Go.Proofs.YtlmmeeeoljlgcaaDoor

/- Stores as one entry of a footprint: made anew, read, marked (the statements' own). No condition. -/
import Derived.Test.YteimapjiidekoaaDoorStM
namespace Go.Proofs.YteimapjiidekoaaDoor
open Go.RowKit
set_option linter.unusedVariables false
set_option linter.unusedSimpArgs false
/-- A store's whole footprint as one entry. -/
def stoR (A : Option Addr) (c n : Nat) (es : List Entry) : List Ent := row 80 3 (.slice A n c) n (es.flatMap encEntry) :: es.flatMap entF
def stoE (A : Option Addr) (c n : Nat) (es : List Entry) : Ent := bund (stoR A c n es)
theorem mid_perm {T D : List Ent} {b : Ent} : List.Perm ((T ++ D) ++ [b]) (T ++ b :: D) := by
  rw [List.append_assoc]; exact List.Perm.append_left T (List.perm_append_singleton b D)
theorem rep_form {L L' : List Ent} {e e' : Ent} (h : Rep L e e' L') : ∃ T D, L = T ++ e :: D ∧ L' = T ++ e' :: D := by
  obtain ⟨i, hi, rfl⟩ := h
  obtain ⟨h1, h2⟩ := List.getElem?_eq_some_iff.1 hi
  refine ⟨L.take i, L.drop (i + 1), ?_, ?_⟩
  · rw [← h2, ← List.drop_eq_getElem_cons h1, List.take_append_drop]
  · rw [List.set_eq_take_append_cons_drop, if_pos h1]
theorem bund_focus {w0 w : World} {L L' R R' : List Ent} (H : Hp w0 w L) (hr : Rep L (bund R) (bund R') L') : ∃ M, Hp w0 w (R ++ M) ∧ ∀ w', Hp w0 w' (R' ++ M) → Hp w0 w' L' := by
  obtain ⟨T, D, rfl, rfl⟩ := rep_form hr
  refine ⟨T ++ D, ?_, fun w' h => ?_⟩
  · exact (Hp.unpack (T ++ D) R (H.perm mid_perm)).perm List.perm_append_comm
  · exact (Hp.pack (T ++ D) R' (h.perm List.perm_append_comm)).perm mid_perm.symm
theorem stoE_rd {w0 w : World} {L : List Ent} {A : Option Addr} {c n : Nat} {es : List Entry} (H : Hp w0 w L) (hm : stoE A c n es ∈ L) : Rd w w.heap.size 3 A n c (es.flatMap encEntry) ∧ ∀ e ∈ es, DE 0 w e := by
  have hp : (∀ e ∈ stoR A c n es, e.P w) ∧ (stoR A c n es).Pairwise apart := (H.ok _ hm).p
  have h1 : w.ownsRow 0 80 3 (.slice A n c) n (es.flatMap encEntry) := hp.1 _ List.mem_cons_self
  refine ⟨own_rdn h1, fun e he => ?_⟩
  have hin : ∀ x ∈ entF e, x.P w := fun x hx => hp.1 x (List.mem_cons_of_mem _ (List.mem_flatMap.2 ⟨e, he, hx⟩))
  have h2 : w.ownsRow 0 65 4 (.slice e.va e.vs.length e.vc) e.vs.length (e.vs.flatMap encVer) := hin _ List.mem_cons_self
  refine ⟨⟨own_rdn h2, fun a ha => Nat.zero_le _⟩, fun v hv => ?_⟩
  have h3 : w.ownsRow 0 5 1 (.slice v.da v.data.length v.dc) v.data.length (v.data.flatMap encByte) := hin (rByte v.da v.dc v.data) (List.mem_cons_of_mem _ (List.mem_flatMap.2 ⟨v, hv, List.mem_singleton.2 rfl⟩))
  exact ⟨own_rdn h3, fun a ha => Nat.zero_le _⟩
set_option maxHeartbeats 2000000 in
theorem toStoreP_hp (A : Option Addr) (n c : Nat) (us : List Entry) (w : World) (hr : Rd w w.heap.size 3 A n c (us.flatMap encEntry)) (hn : us.length = n) (hb20 : n ≤ 1048576) (hd : ∀ u ∈ us, DE 0 w u) (hvl : ∀ u ∈ us, u.vs.length ≤ 1048576) (hdl : ∀ u ∈ us, ∀ v ∈ u.vs, v.data.length ≤ 1048576) :
    Calls Tryd.prog 13 #[.agg #[.slice A n c]] w fun e w' => ∃ A' c', ∃ vs : List Entry, e = .returned (.agg #[.slice A' n c']) ∧ vs.map plE = us.map plE ∧ vs.length = n ∧ Hp w w' [stoE A' c' n vs] := by
  have H := Hp.nil w
  go_enter Tryd.func13, Tryd.ntmps13
  go_wp2_with (go_at_call 45; refine (toEntryS_hp A n c us _ (hr.grow (Hp.b (by repeat (first | (with_reducible exact H) | (with_reducible apply Hp.alloc) | (with_reducible apply Hp.set) | (with_reducible apply Hp.drew) | (with_reducible apply Hp.drewN) | (with_reducible apply Hp.bytesW) | (with_reducible exact Upd.here) | (with_reducible exact Upd.hereR) | (with_reducible apply Upd.there) | (with_reducible apply Sz.alloc) | (with_reducible apply Sz.set) | (with_reducible apply Sz.drew) | (with_reducible apply Sz.drewN) | (with_reducible apply Sz.bytesW) | (with_reducible assumption) | (with_reducible exact Sz.base _))))) hn hb20 (fun u hu => (hd u hu).step (Hp.b (by repeat (first | (with_reducible exact H) | (with_reducible apply Hp.alloc) | (with_reducible apply Hp.set) | (with_reducible apply Hp.drew) | (with_reducible apply Hp.drewN) | (with_reducible apply Hp.bytesW) | (with_reducible exact Upd.here) | (with_reducible exact Upd.hereR) | (with_reducible apply Upd.there) | (with_reducible apply Sz.alloc) | (with_reducible apply Sz.set) | (with_reducible apply Sz.drew) | (with_reducible apply Sz.drewN) | (with_reducible apply Sz.bytesW) | (with_reducible assumption) | (with_reducible exact Sz.base _))))) hvl hdl).mono ?_; rintro e w1 ⟨A', c', vs, rfl, hp, hl, h1⟩; replace H := (Hp.call (by repeat (first | (with_reducible exact H) | (with_reducible apply Hp.alloc) | (with_reducible apply Hp.set) | (with_reducible apply Hp.drew) | (with_reducible apply Hp.drewN) | (with_reducible apply Hp.bytesW) | (with_reducible exact Upd.here) | (with_reducible exact Upd.hereR) | (with_reducible apply Upd.there) | (with_reducible apply Sz.alloc) | (with_reducible apply Sz.set) | (with_reducible apply Sz.drew) | (with_reducible apply Sz.drewN) | (with_reducible apply Sz.bytesW) | (with_reducible assumption) | (with_reducible exact Sz.base _))) h1).perm List.perm_append_comm; (try simp only [List.set_cons_zero, List.set_cons_succ, List.cons_append, List.nil_append] at H); clear h1; have F := H.facts; simp only [Facts, NeF, box, row, reg, cellsF, ne_eq, true_and, and_true, Nat.reduceAdd, Nat.zero_add] at F)
  refine bodyPost_ret (v := .agg #[.slice A' n c']) (by simp [results, Tryd.results13, go_sem, F] <;> omega) rfl ⟨A', c', vs, rfl, hp, hl, ?_⟩
  refine Hp.pack [] (stoR A' c' n vs) ?_
  exact Hp.tails (by repeat (first | (with_reducible exact H) | (with_reducible apply Hp.alloc) | (with_reducible apply Hp.set) | (with_reducible apply Hp.drew) | (with_reducible apply Hp.drewN) | (with_reducible apply Hp.bytesW) | (with_reducible exact Upd.here) | (with_reducible exact Upd.hereR) | (with_reducible apply Upd.there) | (with_reducible apply Sz.alloc) | (with_reducible apply Sz.set) | (with_reducible apply Sz.drew) | (with_reducible apply Sz.drewN) | (with_reducible apply Sz.bytesW) | (with_reducible assumption) | (with_reducible exact Sz.base _))) (by repeat (first | exact Tl.here | apply Tl.there))
set_option maxHeartbeats 2000000 in
theorem markStoreP_hp (A : Option Addr) (n c m : Nat) (mi : Int) (hmi : mi = (m : Int)) (es : List Entry) (hn : es.length = n) {w0 w : World} {L L' : List Ent} (H : Hp w0 w L) (hr : Rep L (stoE A c n es) (stoE A c n (mkE m es)) L') (h0 : 0 < m) (hm : m + cntE es ≤ 1125899906842624) :
    Calls Tryd.prog 18 #[.agg #[.slice A n c], .int .i64 mi] w fun e w' => e = .returned (.int .i64 ((m + cntE es : Nat) : Int)) ∧ Hp w0 w' L' := by
  subst hmi
  go_enter Tryd.func18, Tryd.ntmps18
  go_wp2_with fail
  obtain ⟨M, H2, hb⟩ := bund_focus H hr
  refine (markEntryS_hp A n c m es hn (L := M) (w0 := w0) ?_ h0 hm).mono ?_
  · exact (Hp.tails (by repeat (first | (with_reducible exact H2) | (with_reducible apply Hp.alloc) | (with_reducible apply Hp.set) | (with_reducible apply Hp.drew) | (with_reducible apply Hp.drewN) | (with_reducible apply Hp.bytesW) | (with_reducible exact Upd.here) | (with_reducible exact Upd.hereR) | (with_reducible apply Upd.there) | (with_reducible apply Sz.alloc) | (with_reducible apply Sz.set) | (with_reducible apply Sz.drew) | (with_reducible apply Sz.drewN) | (with_reducible apply Sz.bytesW) | (with_reducible assumption) | (with_reducible exact Sz.base _))) (by repeat (first | exact Tl.here | apply Tl.there)))
  rintro e w1 ⟨rfl, H3⟩
  go_wp2_with fail
  go_ret
  exact ⟨rfl, hb _ H3⟩
end Go.Proofs.YteimapjiidekoaaDoor

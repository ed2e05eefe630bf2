/- Stores as footprints: rows of versions, of entries; what makes them anew (the statements' own). No condition. -/
import Derived.Test.YtklmcbabpncfmaaDoorStoreL
import Derived.Test.YtklmcbabpncfmaaDoorMarkB
import Derived.Test.YtklmcbabpncfmaaDoorHpB
namespace Go.Proofs.YtklmcbabpncfmaaDoor
open Go.RowKit
set_option linter.unusedVariables false
set_option linter.unusedSimpArgs false
/-- What a version holds beside its own cells. -/
def verF (v : Ver) : List Ent := [rByte v.da v.dc v.data]
def versE (A : Option Addr) (c : Nat) (vs : List Ver) : List Ent := row 71 4 (.slice A vs.length c) vs.length (vs.flatMap encVer) :: vs.flatMap verF
/-- What an entry holds beside its own cells. -/
def entF (e : Entry) : List Ent := versE e.va e.vc e.vs
def storE (A : Option Addr) (c : Nat) (es : List Entry) : List Ent := row 62 3 (.slice A es.length c) es.length (es.flatMap encEntry) :: es.flatMap entF
theorem Hp.perm {w0 w : World} {L R : List Ent} (H : Hp w0 w L) (h : List.Perm R L) : Hp w0 w R := H.sel ⟨[], by simpa using h⟩
inductive Tl : List Ent → List Ent → Prop
  | here {L : List Ent} : Tl L L
  | there {e : Ent} {L L' : List Ent} : Tl L L' → Tl (e :: L) L'
theorem Tl.form {L L' : List Ent} (h : Tl L L') : ∃ X, L = X ++ L' := by
  induction h with
  | here => exact ⟨[], rfl⟩
  | there h ih => obtain ⟨X, rfl⟩ := ih; exact ⟨_ :: X, rfl⟩
theorem Hp.tails {w0 w : World} {L L' : List Ent} (H : Hp w0 w L) (h : Tl L L') : Hp w0 w L' := by
  obtain ⟨X, rfl⟩ := h.form
  exact H.sel ⟨X, List.perm_append_comm⟩
theorem perm_new {α : Type} {f : α → List Ent} (a : Ent) (vs : List α) (v : α) : List.Perm (a :: (vs ++ [v]).flatMap f) (f v ++ a :: vs.flatMap f) := by
  rw [List.flatMap_append, List.flatMap_cons, List.flatMap_nil, List.append_nil]
  exact (List.perm_append_comm.cons a).trans List.perm_middle.symm
set_option maxHeartbeats 4000000 in
theorem toVerS_hp (A : Option Addr) (n c : Nat) (us : List Ver) (w : World) (hr : Rd w w.heap.size 4 A n c (us.flatMap encVer)) (hn : us.length = n) (hb20 : n ≤ 1048576) (hd : ∀ u ∈ us, DV 0 w u) (hdl : ∀ u ∈ us, u.data.length ≤ 1048576) :
    Calls Tryd.prog 101 #[.slice A n c] w fun e w' => ∃ A' c', ∃ vs : List Ver, e = .returned (.slice A' n c') ∧ vs.map plV = us.map plV ∧ vs.length = n ∧ Hp w w' (row 71 4 (.slice A' n c') n (vs.flatMap encVer) :: vs.flatMap verF) := by
  obtain ⟨i0, hi, hz0, hz1, hz2⟩ := info_parts Tryd.infoVer
  have hc := hr.2.1
  have hm := hr.2.2.1
  unfold maxLen at hm
  go_enter Tryd.func101, Tryd.ntmps101
  go_wp2_with (at_make; refine wpList_make_full _ rfl _ _ 60 rfl w.heap.size 71 i0 _ 4 Tryd.underlying60 hi hz0 hz1 _ _ _ _ n rfl rfl rfl rfl ?_ ?_ ?_ ?_; rotate_right; intro w1 hown hgrow)
  case refine_1 => rw [hz2]; omega
  case refine_2 => unfold maxLen; omega
  case refine_3 => exact Nat.le_refl _
  have HB1 : Below w.heap.size w w1 := (Below.refl _ _).grown hgrow (Nat.le_refl _) (fun k hk => by cases hk)
  generalize (madeCells (Value.cells (.agg #[.slice none 0 0, .int .i64 0, .bool false, .bool false])) (n * 4)).toList = cs0 at *
  clear hgrow
  have HH := Lib.hid (Hp.ofOwn HB1 (Own.of hown) (Nat.le_refl _))
  clear hown HB1
  go_loopw [4] (fun i wr => ∃ (k : Nat) (vs : List Ver) (cs : List Value), k ≤ n ∧ i = .int .i64 k ∧ Hid (vs.length = k ∧ vs.map plV = (us.take k).map plV) ∧ Hid (cs.take (k * 4) = vs.flatMap encVer) ∧ Hid (Hp w wr (row 71 4 (.slice (some ⟨w.heap.size, 0, none⟩) n n) n cs :: vs.flatMap verF))) (fun i _ => n - (intOf i).toNat)
  case atStart => exact ⟨0, [], cs0, Nat.zero_le _, rfl, ⟨rfl, rfl⟩, by show _ = _; simp, HH⟩
  case round =>
    clear HH
    obtain ⟨k, vs, cs, hk, rfl, HV, HC, HP⟩ := hrel
    have H := HP.out
    have hown := H.rowM (t := 71) (k := 4) (v := .slice (some ⟨w.heap.size, 0, none⟩) n n) (n := n) (xs := cs) List.mem_cons_self
    have hlt1 : w.heap.size < wr.heap.size := (hown.lt w.heap.size rfl).2
    by_cases hlt : k < n
    · obtain ⟨b, off, rfl, hb, hcell⟩ := hr.elem encVer_len hn hlt
      have c0 := H.b.cell (p := ⟨b, off + k * 4 + 0, none⟩) (by omega) |>.trans (hcell 0 _ rfl)
      have c1 := H.b.cell (p := ⟨b, off + k * 4 + 1, none⟩) (by omega) |>.trans (hcell 1 _ rfl)
      have c2 := H.b.cell (p := ⟨b, off + k * 4 + 2, none⟩) (by omega) |>.trans (hcell 2 _ rfl)
      have c3 := H.b.cell (p := ⟨b, off + k * 4 + 3, none⟩) (by omega) |>.trans (hcell 3 _ rfl)
      simp only [Nat.add_zero] at c0
      have hkl : k < us.length := by omega
      have HPL : Hid ((us.take (k + 1)).map plV = vs.map plV ++ [plV us[k]]) := by show _ = _; rw [List.take_succ_eq_append_getElem hkl, List.map_append, ← HV.out.2]; rfl
      have hdk := (hd us[k] (List.getElem_mem hkl)).step H.b
      have hlk := hdl us[k] (List.getElem_mem hkl)
      have hcl := hown.1
      have HT : Hid (∀ v' : Ver, (setL cs (k * 4) (encVer v')).take ((k + 1) * 4) = (vs ++ [v']).flatMap encVer) := fun v' => take_flat_new encVer_len HV.out.1 hlt HC.out hcl v'
      clear hcell hown hcl
      generalize us[k] = u at *
      obtain ⟨data, da, dc, made, gone, dead⟩ := u
      dsimp only at c0 c1 c2 c3 hdk hlk
      go_wp2_with (go_at_call 126; refine (toVer_hp ⟨data, da, dc, made, gone, dead⟩ _ hdk.1 hlk).mono ?_; rintro e w1 ⟨A', c', rfl, h1⟩; replace H := (Hp.call (by repeat (first | (with_reducible exact H) | (with_reducible apply Hp.alloc) | (with_reducible apply Hp.set) | (with_reducible apply Hp.drew) | (with_reducible apply Hp.drewN) | (with_reducible apply Hp.bytesW) | (with_reducible exact Upd.here) | (with_reducible exact Upd.hereR) | (with_reducible apply Upd.there) | (with_reducible apply Sz.alloc) | (with_reducible apply Sz.set) | (with_reducible apply Sz.drew) | (with_reducible apply Sz.drewN) | (with_reducible apply Sz.bytesW) | (with_reducible assumption) | (with_reducible exact Sz.base _))) h1).perm (perm_new (f := verF) _ vs ⟨data, A', c', made, gone, dead⟩); clear h1; have hown1 := H.rowM (t := 71) (k := 4) (v := .slice (some ⟨w.heap.size, 0, none⟩) n n) (n := n) (xs := cs) List.mem_cons_self; obtain ⟨v0, hv0, d0⟩ := own_cell hown1 (j := k * 4 + 0) (by omega); have f0 := hown1.frozenAt (k * 4 + 0); obtain ⟨v1, hv1, d1⟩ := own_cell hown1 (j := k * 4 + 1) (by omega); have f1 := hown1.frozenAt (k * 4 + 1); obtain ⟨v2, hv2, d2⟩ := own_cell hown1 (j := k * 4 + 2) (by omega); have f2 := hown1.frozenAt (k * 4 + 2); obtain ⟨v3, hv3, d3⟩ := own_cell hown1 (j := k * 4 + 3) (by omega); have f3 := hown1.frozenAt (k * 4 + 3); simp only [Nat.add_zero] at d0 f0)
      have H3 := Hp.set (b := w.heap.size) (j := k * 4 + 3) (v := (.bool dead)) (Hp.set (b := w.heap.size) (j := k * 4 + 2) (v := (.bool gone)) (Hp.set (b := w.heap.size) (j := k * 4 + 1) (v := (.int .i64 made)) (Hp.set (b := w.heap.size) (j := k * 4) (v := (.slice A' data.length c')) (H) Upd.hereR) Upd.hereR) Upd.hereR) Upd.hereR
      go_roundw
      case rel => exact ⟨k + 1, vs ++ [(⟨data, A', c', made, gone, dead⟩ : Ver)], setL cs (k * 4) (encVer ⟨data, A', c', made, gone, dead⟩), by omega, by go_num, ⟨by simp [HV.out.1], by rw [HPL.out, List.map_append]; rfl⟩, Lib.hid (HT.out ⟨data, A', c', made, gone, dead⟩), Lib.hid H3⟩
      case measure => simp [intOf]; omega
    · have hkn : k = n := by omega
      have HF : Hid (cs = vs.flatMap encVer) := by
        have h2 := HC.out
        have h3 := HV.out.1
        rw [List.take_of_length_le (by rw [hown.1]; omega)] at h2
        exact h2
      have HG : Hid (vs.map plV = us.map plV) := by show _ = _; rw [HV.out.2, List.take_of_length_le (by omega)]
      have HL : Hid (vs.length = n) := by show _ = _; rw [HV.out.1, hkn]
      clear hkn
      go_wp2_with fail
      go_ret
      exact ⟨_, _, vs, rfl, HG.out, HL.out, by rw [← HF.out]; exact H⟩
set_option maxHeartbeats 2000000 in
theorem toEntryF_hp (u : Entry) (w : World) (hd : DE 0 w u) (hb : u.vs.length ≤ 1048576) (hdl : ∀ v ∈ u.vs, v.data.length ≤ 1048576) :
    Calls Tryd.prog 81 #[valEntry u] w fun e w' => ∃ A' c', ∃ vs' : List Ver, e = .returned (valEntry ⟨u.path, u.first, vs', A', c'⟩) ∧ vs'.map plV = u.vs.map plV ∧ vs'.length = u.vs.length ∧ Hp w w' (entF ⟨u.path, u.first, vs', A', c'⟩) := by
  have H := Hp.nil w
  obtain ⟨path, first, vs, va, vc⟩ := u
  dsimp only [valEntry] at *
  go_enter Tryd.func81, Tryd.ntmps81
  go_wp2_with (go_at_call 101; refine (toVerS_hp va vs.length vc vs _ (hd.1.1.grow (Hp.b (by repeat (first | (with_reducible exact H) | (with_reducible apply Hp.alloc) | (with_reducible apply Hp.set) | (with_reducible apply Hp.drew) | (with_reducible apply Hp.drewN) | (with_reducible apply Hp.bytesW) | (with_reducible exact Upd.here) | (with_reducible exact Upd.hereR) | (with_reducible apply Upd.there) | (with_reducible apply Sz.alloc) | (with_reducible apply Sz.set) | (with_reducible apply Sz.drew) | (with_reducible apply Sz.drewN) | (with_reducible apply Sz.bytesW) | (with_reducible assumption) | (with_reducible exact Sz.base _))))) rfl hb (fun u hu => (hd.2 u hu).step (Hp.b (by repeat (first | (with_reducible exact H) | (with_reducible apply Hp.alloc) | (with_reducible apply Hp.set) | (with_reducible apply Hp.drew) | (with_reducible apply Hp.drewN) | (with_reducible apply Hp.bytesW) | (with_reducible exact Upd.here) | (with_reducible exact Upd.hereR) | (with_reducible apply Upd.there) | (with_reducible apply Sz.alloc) | (with_reducible apply Sz.set) | (with_reducible apply Sz.drew) | (with_reducible apply Sz.drewN) | (with_reducible apply Sz.bytesW) | (with_reducible assumption) | (with_reducible exact Sz.base _))))) hdl).mono ?_; rintro e w1 ⟨A', c', vs', rfl, hp, hl, h1⟩; replace H := (Hp.call (by repeat (first | (with_reducible exact H) | (with_reducible apply Hp.alloc) | (with_reducible apply Hp.set) | (with_reducible apply Hp.drew) | (with_reducible apply Hp.drewN) | (with_reducible apply Hp.bytesW) | (with_reducible exact Upd.here) | (with_reducible exact Upd.hereR) | (with_reducible apply Upd.there) | (with_reducible apply Sz.alloc) | (with_reducible apply Sz.set) | (with_reducible apply Sz.drew) | (with_reducible apply Sz.drewN) | (with_reducible apply Sz.bytesW) | (with_reducible assumption) | (with_reducible exact Sz.base _))) h1).perm List.perm_append_comm; (try simp only [List.set_cons_zero, List.set_cons_succ, List.cons_append, List.nil_append] at H); clear h1; have F := H.facts; simp only [Facts, NeF, box, row, reg, cellsF, rByte, ne_eq, true_and, and_true, Nat.reduceAdd, Nat.zero_add] at F)
  refine bodyPost_ret (v := .agg #[.string path, .int .i64 first, .slice A' vs.length c']) (by simp [results, Tryd.results81, go_sem, F] <;> omega) rfl ⟨A', c', vs', by rw [hl], hp, hl, ?_⟩
  show Hp w _ (row 71 4 (.slice A' vs'.length c') vs'.length (vs'.flatMap encVer) :: vs'.flatMap verF)
  rw [hl]
  exact Hp.tails (by repeat (first | (with_reducible exact H) | (with_reducible apply Hp.alloc) | (with_reducible apply Hp.set) | (with_reducible apply Hp.drew) | (with_reducible apply Hp.drewN) | (with_reducible apply Hp.bytesW) | (with_reducible exact Upd.here) | (with_reducible exact Upd.hereR) | (with_reducible apply Upd.there) | (with_reducible apply Sz.alloc) | (with_reducible apply Sz.set) | (with_reducible apply Sz.drew) | (with_reducible apply Sz.drewN) | (with_reducible apply Sz.bytesW) | (with_reducible assumption) | (with_reducible exact Sz.base _))) (by repeat (first | exact Tl.here | apply Tl.there))
set_option maxHeartbeats 4000000 in
theorem toEntryS_hp (A : Option Addr) (n c : Nat) (us : List Entry) (w : World) (hr : Rd w w.heap.size 3 A n c (us.flatMap encEntry)) (hn : us.length = n) (hb20 : n ≤ 1048576) (hd : ∀ u ∈ us, DE 0 w u) (hvl : ∀ u ∈ us, u.vs.length ≤ 1048576) (hdl : ∀ u ∈ us, ∀ v ∈ u.vs, v.data.length ≤ 1048576) :
    Calls Tryd.prog 56 #[.slice A n c] w fun e w' => ∃ A' c', ∃ vs : List Entry, e = .returned (.slice A' n c') ∧ vs.map plE = us.map plE ∧ vs.length = n ∧ Hp w w' (row 62 3 (.slice A' n c') n (vs.flatMap encEntry) :: vs.flatMap entF) := by
  obtain ⟨i0, hi, hz0, hz1, hz2⟩ := info_parts Tryd.infoEntry
  have hc := hr.2.1
  have hm := hr.2.2.1
  unfold maxLen at hm
  go_enter Tryd.func56, Tryd.ntmps56
  go_wp2_with (at_make; refine wpList_make_full _ rfl _ _ 24 rfl w.heap.size 62 i0 _ 3 Tryd.underlying24 hi hz0 hz1 _ _ _ _ n rfl rfl rfl rfl ?_ ?_ ?_ ?_; rotate_right; intro w1 hown hgrow)
  case refine_1 => rw [hz2]; omega
  case refine_2 => unfold maxLen; omega
  case refine_3 => exact Nat.le_refl _
  have HB1 : Below w.heap.size w w1 := (Below.refl _ _).grown hgrow (Nat.le_refl _) (fun k hk => by cases hk)
  generalize (madeCells (Value.cells (.agg #[.string ByteArray.empty, .int .i64 0, .slice none 0 0])) (n * 3)).toList = cs0 at *
  clear hgrow
  have HH := Lib.hid (Hp.ofOwn HB1 (Own.of hown) (Nat.le_refl _))
  clear hown HB1
  go_loopw [4] (fun i wr => ∃ (k : Nat) (vs : List Entry) (cs : List Value), k ≤ n ∧ i = .int .i64 k ∧ Hid (vs.length = k ∧ vs.map plE = (us.take k).map plE) ∧ Hid (cs.take (k * 3) = vs.flatMap encEntry) ∧ Hid (Hp w wr (row 62 3 (.slice (some ⟨w.heap.size, 0, none⟩) n n) n cs :: vs.flatMap entF))) (fun i _ => n - (intOf i).toNat)
  case atStart => exact ⟨0, [], cs0, Nat.zero_le _, rfl, ⟨rfl, rfl⟩, by show _ = _; simp, HH⟩
  case round =>
    clear HH
    obtain ⟨k, vs, cs, hk, rfl, HV, HC, HP⟩ := hrel
    have H := HP.out
    have hown := H.rowM (t := 62) (k := 3) (v := .slice (some ⟨w.heap.size, 0, none⟩) n n) (n := n) (xs := cs) List.mem_cons_self
    have hlt1 : w.heap.size < wr.heap.size := (hown.lt w.heap.size rfl).2
    by_cases hlt : k < n
    · obtain ⟨b, off, rfl, hb, hcell⟩ := hr.elem encEntry_len hn hlt
      have c0 := H.b.cell (p := ⟨b, off + k * 3 + 0, none⟩) (by omega) |>.trans (hcell 0 _ rfl)
      have c1 := H.b.cell (p := ⟨b, off + k * 3 + 1, none⟩) (by omega) |>.trans (hcell 1 _ rfl)
      have c2 := H.b.cell (p := ⟨b, off + k * 3 + 2, none⟩) (by omega) |>.trans (hcell 2 _ rfl)
      simp only [Nat.add_zero] at c0
      have hkl : k < us.length := by omega
      have HPL : Hid ((us.take (k + 1)).map plE = vs.map plE ++ [plE us[k]]) := by show _ = _; rw [List.take_succ_eq_append_getElem hkl, List.map_append, ← HV.out.2]; rfl
      have hdk := (hd us[k] (List.getElem_mem hkl)).step H.b
      have hvk := hvl us[k] (List.getElem_mem hkl)
      have hlk := hdl us[k] (List.getElem_mem hkl)
      have hcl := hown.1
      have HT : Hid (∀ v' : Entry, (setL cs (k * 3) (encEntry v')).take ((k + 1) * 3) = (vs ++ [v']).flatMap encEntry) := fun v' => take_flat_new encEntry_len HV.out.1 hlt HC.out hcl v'
      clear hcell hown hcl
      generalize us[k] = u at *
      obtain ⟨path, first, es, va, vc⟩ := u
      dsimp only at c0 c1 c2 hdk hvk hlk
      go_wp2_with (go_at_call 81; refine (toEntryF_hp ⟨path, first, es, va, vc⟩ _ hdk hvk hlk).mono ?_; rintro e w1 ⟨A', c', es', rfl, hp, hl', h1⟩; replace H := (Hp.call (by repeat (first | (with_reducible exact H) | (with_reducible apply Hp.alloc) | (with_reducible apply Hp.set) | (with_reducible apply Hp.drew) | (with_reducible apply Hp.drewN) | (with_reducible apply Hp.bytesW) | (with_reducible exact Upd.here) | (with_reducible exact Upd.hereR) | (with_reducible apply Upd.there) | (with_reducible apply Sz.alloc) | (with_reducible apply Sz.set) | (with_reducible apply Sz.drew) | (with_reducible apply Sz.drewN) | (with_reducible apply Sz.bytesW) | (with_reducible assumption) | (with_reducible exact Sz.base _))) h1).perm (perm_new (f := entF) _ vs ⟨path, first, es', A', c'⟩); clear h1; have HPE : Hid (plE ⟨path, first, es', A', c'⟩ = plE ⟨path, first, es, va, vc⟩) := (by show _ = _; simp only [plE]; rw [hp]); clear hl' hp; have hown1 := H.rowM (t := 62) (k := 3) (v := .slice (some ⟨w.heap.size, 0, none⟩) n n) (n := n) (xs := cs) List.mem_cons_self; obtain ⟨v0, hv0, d0⟩ := own_cell hown1 (j := k * 3 + 0) (by omega); have f0 := hown1.frozenAt (k * 3 + 0); obtain ⟨v1, hv1, d1⟩ := own_cell hown1 (j := k * 3 + 1) (by omega); have f1 := hown1.frozenAt (k * 3 + 1); obtain ⟨v2, hv2, d2⟩ := own_cell hown1 (j := k * 3 + 2) (by omega); have f2 := hown1.frozenAt (k * 3 + 2); simp only [Nat.add_zero] at d0 f0)
      have H3 := Hp.set (b := w.heap.size) (j := k * 3 + 2) (v := (.slice A' es'.length c')) (Hp.set (b := w.heap.size) (j := k * 3 + 1) (v := (.int .i64 first)) (Hp.set (b := w.heap.size) (j := k * 3) (v := (.string path)) (H) Upd.hereR) Upd.hereR) Upd.hereR
      go_roundw
      case rel => exact ⟨k + 1, vs ++ [(⟨path, first, es', A', c'⟩ : Entry)], setL cs (k * 3) (encEntry ⟨path, first, es', A', c'⟩), by omega, by go_num, ⟨by simp [HV.out.1], by rw [HPL.out, List.map_append]; rw [← HPE.out]; rfl⟩, Lib.hid (HT.out ⟨path, first, es', A', c'⟩), Lib.hid H3⟩
      case measure => simp [intOf]; omega
    · have hkn : k = n := by omega
      have HF : Hid (cs = vs.flatMap encEntry) := by
        have h2 := HC.out
        have h3 := HV.out.1
        rw [List.take_of_length_le (by rw [hown.1]; omega)] at h2
        exact h2
      have HG : Hid (vs.map plE = us.map plE) := by show _ = _; rw [HV.out.2, List.take_of_length_le (by omega)]
      have HL : Hid (vs.length = n) := by show _ = _; rw [HV.out.1, hkn]
      clear hkn
      go_wp2_with fail
      go_ret
      exact ⟨_, _, vs, rfl, HG.out, HL.out, by rw [← HF.out]; exact H⟩
end Go.Proofs.YtklmcbabpncfmaaDoor

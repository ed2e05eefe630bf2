/- Stores copied: the reference's. No condition. -/
import Derived.Test.YtklmcbabpncfmaaDoorM5
import Derived.Test.YtklmcbabpncfmaaDoorStoreA
import Derived.Deep.RegionHeld3
namespace Go.Proofs.YtklmcbabpncfmaaDoor
open Go.RowKit
set_option linter.unusedVariables false
set_option linter.unusedSimpArgs false
theorem Sel.tl {L R : List Ent} (h : Tl L R) : Sel L R := by
  obtain ⟨X, rfl⟩ := h.form
  exact ⟨X, List.perm_append_comm⟩
theorem Hp.snocT {α : Type} {f : α → List Ent} {w0 w : World} {P : List Ent} {ds : List α} {v : α} (H : Hp w0 w (P ++ (f v ++ ds.flatMap f))) : Hp w0 w (P ++ (ds ++ [v]).flatMap f) := by
  refine H.perm ?_
  rw [List.flatMap_append, List.flatMap_cons, List.flatMap_nil, List.append_nil]
  exact List.Perm.append_left P List.perm_append_comm
theorem oneVer (u : Ver) : ∀ x ∈ encVer u, x.oneCell' = true := by
  intro x hx
  simp only [encVer, List.mem_cons, List.not_mem_nil, or_false] at hx
  rcases hx with rfl | rfl | rfl | rfl <;> rfl
theorem oneEntry (u : Entry) : ∀ x ∈ encEntry u, x.oneCell' = true := by
  intro x hx
  simp only [encEntry, List.mem_cons, List.not_mem_nil, or_false] at hx
  rcases hx with rfl | rfl | rfl <;> rfl
set_option maxHeartbeats 8000000 in
set_option maxRecDepth 10000 in
theorem l10CopyEntry_hp (u : Entry) (w : World) (hd : DE 0 w u) (hb : u.vs.length ≤ 1048576) (hdl : ∀ v ∈ u.vs, v.data.length ≤ 1048576) :
    Calls Tryd.prog 66 #[valEntry u] w fun e w' => ∃ A' c', ∃ vs' : List Ver, e = .returned (.agg #[.string u.path, .int .i64 u.first, .slice A' vs'.length c']) ∧ vs'.map plV = u.vs.map plV ∧ vs'.length = u.vs.length ∧ Hp w w' (entF ⟨u.path, u.first, vs', A', c'⟩) := by
  obtain ⟨i0, hi0, hz0, hz1, hz2⟩ := info_parts Tryd.infoVer
  have H := Hp.nil w
  obtain ⟨path, first, vs, va, vc⟩ := u
  dsimp only [valEntry] at *
  have hvr := hd.1.1
  have hvd := hd.2
  dsimp only at hvr hvd
  have hc := hvr.2.1
  have hm := hvr.2.2.1
  unfold maxLen at hm
  clear hd
  go_enter Tryd.func66, Tryd.ntmps66
  go_wp2_with fail
  have HH := Lib.hid H; clear H
  go_loopw [4] (fun i wr => ∃ (k : Nat) (A1 : Option Addr) (d : Nat) (ds : List Ver), k ≤ vs.length ∧ i = .int .i64 k ∧ Hid (ds.length = k ∧ ds.map plV = (vs.take k).map plV) ∧ Hid (Hp w wr ([row 71 4 (.slice A1 (ds).length d) (ds).length ((ds).flatMap encVer), box (w.heap.size + 1 + 1) 62 [.string path, .int .i64 first, .slice A1 ds.length d], box (w.heap.size + 1) 62 [.string ⟨#[]⟩, .int .i64 0, .slice none 0 0], box w.heap.size 62 [.string path, .int .i64 first, .slice va vs.length vc]] ++ ds.flatMap verF))) (fun i _ => vs.length - (intOf i).toNat)
  case atStart =>
    have H := HH.out
    exact ⟨0, none, 0, [], Nat.zero_le _, rfl, ⟨rfl, rfl⟩, Lib.hid (Hp.give (Hp.cons_nilRow (by repeat (first | (with_reducible exact H) | (with_reducible apply Hp.alloc) | (with_reducible apply Hp.set) | (with_reducible apply Hp.drew) | (with_reducible apply Hp.drewN) | (with_reducible apply Hp.bytesW) | (with_reducible exact Upd.here) | (with_reducible exact Upd.hereR) | (with_reducible apply Upd.there) | (with_reducible apply Sz.alloc) | (with_reducible apply Sz.set) | (with_reducible apply Sz.drew) | (with_reducible apply Sz.drewN) | (with_reducible apply Sz.bytesW) | (with_reducible assumption) | (with_reducible exact Sz.base _))) 71 4) [0, 1, 2, 3] (by decide) (by rfl))⟩
  case round =>
    clear HH
    obtain ⟨k, A1, d, ds, hk, rfl, HV, HP⟩ := hrel
    have H := HP.out
    simp only [List.cons_append, List.nil_append] at H
    have F := H.facts; simp only [Facts, NeF, box, row, reg, cellsF, rByte, ne_eq, true_and, and_true, Nat.reduceAdd, Nat.zero_add] at F
    by_cases hlt : k < vs.length
    · obtain ⟨b2, off2, rfl, hb2⟩ := Rd.atV (enc := encVer) hvr rfl encVer_len (by omega)
      obtain ⟨d0, d1, d2, d3⟩ := Rd.verAt hvr rfl (k := k) hlt rfl wr H.b
      have hk1 : (k : Int) < (vs.length : Int) := by omega
      have hk0 : (0 : Int) ≤ (k : Int) := by omega
      have HK1 : Hid (k + 1 ≤ vs.length ∧ vs.length - (k + 1) < vs.length - k) := ⟨by omega, by omega⟩
      have HPL : Hid ((vs.take (k + 1)).map plV = ds.map plV ++ [plV vs[k]]) := by show _ = _; rw [List.take_succ_eq_append_getElem hlt, List.map_append, ← HV.out.2]; rfl
      have hdv := hvd vs[k] (List.getElem_mem hlt)
      have hdl9 := hdl vs[k] (List.getElem_mem hlt)
      have hbw2 : b2 < wr.heap.size := Nat.lt_of_lt_of_le hb2 H.b.size
      have hbe2 : ¬ b2 = wr.heap.size ∧ ¬ wr.heap.size = b2 := by omega
      have hds : ds.length ≤ 1048576 := by have := HV.out.1; omega
      have hl : ds.length + 1 ≤ maxLen := by unfold maxLen; omega
      generalize vs[k] = v at *
      obtain ⟨data, da, dc, made, gone, dead⟩ := v
      dsimp only at d0 d1 d2 d3 hdv hdl9
      go_wp2_with (first | (go_at_call 39; refine (l01Bytes_hp da dc data _ (hdv.1.grow (Hp.b (by repeat (first | (with_reducible exact H) | (with_reducible apply Hp.alloc) | (with_reducible apply Hp.set) | (with_reducible apply Hp.drew) | (with_reducible apply Hp.drewN) | (with_reducible apply Hp.bytesW) | (with_reducible exact Upd.here) | (with_reducible exact Upd.hereR) | (with_reducible apply Upd.there) | (with_reducible apply Sz.alloc) | (with_reducible apply Sz.set) | (with_reducible apply Sz.drew) | (with_reducible apply Sz.drewN) | (with_reducible apply Sz.bytesW) | (with_reducible assumption) | (with_reducible exact Sz.base _))))) (by omega)).mono ?_; rintro e w5 ⟨A', c', rfl, h5⟩; replace H := Hp.call (by repeat (first | (with_reducible exact H) | (with_reducible apply Hp.alloc) | (with_reducible apply Hp.set) | (with_reducible apply Hp.drew) | (with_reducible apply Hp.drewN) | (with_reducible apply Hp.bytesW) | (with_reducible exact Upd.here) | (with_reducible exact Upd.hereR) | (with_reducible apply Upd.there) | (with_reducible apply Sz.alloc) | (with_reducible apply Sz.set) | (with_reducible apply Sz.drew) | (with_reducible apply Sz.drewN) | (with_reducible apply Sz.bytesW) | (with_reducible assumption) | (with_reducible exact Sz.base _))) h5; (try simp only [List.set_cons_zero, List.set_cons_succ, List.cons_append, List.nil_append] at H); clear h5 F; have F := H.facts; simp only [Facts, NeF, box, row, reg, cellsF, rByte, ne_eq, true_and, and_true, Nat.reduceAdd, Nat.zero_add] at F) | (at_builtin; refine wpList_append_lies _ (by rfl) _ _ 60 (by rfl) w.heap.size 71 i0 _ 4 _ Tryd.underlying60 hi0 hz0 hz1 hz2 (by rfl) (by decide) (.slice A1 (ds.length) d) (ds.length) _ (by rfl) (Hp.rowM (by repeat (first | (with_reducible exact H) | (with_reducible apply Hp.alloc) | (with_reducible apply Hp.set) | (with_reducible apply Hp.drew) | (with_reducible apply Hp.drewN) | (with_reducible apply Hp.bytesW) | (with_reducible exact Upd.here) | (with_reducible exact Upd.hereR) | (with_reducible apply Upd.there) | (with_reducible apply Sz.alloc) | (with_reducible apply Sz.set) | (with_reducible apply Sz.drew) | (with_reducible apply Sz.drewN) | (with_reducible apply Sz.bytesW) | (with_reducible assumption) | (with_reducible exact Sz.base _))) (by repeat (first | (with_reducible exact List.mem_cons_self) | (with_reducible apply List.mem_cons_of_mem)))) ⟨w5.heap.size, 0, none⟩ 1 1 (encVer ⟨data, A', c', made, gone, dead⟩) (by rfl) (by rfl) (Hp.news (by repeat (first | (with_reducible exact H) | (with_reducible apply Hp.alloc) | (with_reducible apply Hp.set) | (with_reducible apply Hp.drew) | (with_reducible apply Hp.drewN) | (with_reducible apply Hp.bytesW) | (with_reducible exact Upd.here) | (with_reducible exact Upd.hereR) | (with_reducible apply Upd.there) | (with_reducible apply Sz.alloc) | (with_reducible apply Sz.set) | (with_reducible apply Sz.drew) | (with_reducible apply Sz.drewN) | (with_reducible apply Sz.bytesW) | (with_reducible assumption) | (with_reducible exact Sz.base _))) 0 (by rfl)) (oneVer ⟨data, A', c', made, gone, dead⟩) (by decide) hl (by omega) (Hp.b (by repeat (first | (with_reducible exact H) | (with_reducible apply Hp.alloc) | (with_reducible apply Hp.set) | (with_reducible apply Hp.drew) | (with_reducible apply Hp.drewN) | (with_reducible apply Hp.bytesW) | (with_reducible exact Upd.here) | (with_reducible exact Upd.hereR) | (with_reducible apply Upd.there) | (with_reducible apply Sz.alloc) | (with_reducible apply Sz.set) | (with_reducible apply Sz.drew) | (with_reducible apply Sz.drewN) | (with_reducible apply Sz.bytesW) | (with_reducible assumption) | (with_reducible exact Sz.base _)))).size _ rfl ?_; intro g cap wa hown hgrow hat hlt1; have H5 := Hp.appM (by repeat (first | (with_reducible exact H) | (with_reducible apply Hp.alloc) | (with_reducible apply Hp.set) | (with_reducible apply Hp.drew) | (with_reducible apply Hp.drewN) | (with_reducible apply Hp.bytesW) | (with_reducible exact Upd.here) | (with_reducible exact Upd.hereR) | (with_reducible apply Upd.there) | (with_reducible apply Sz.alloc) | (with_reducible apply Sz.set) | (with_reducible apply Sz.drew) | (with_reducible apply Sz.drewN) | (with_reducible apply Sz.bytesW) | (with_reducible assumption) | (with_reducible exact Sz.base _))) (by repeat (first | (with_reducible exact Rep.here) | (with_reducible apply Rep.there))) hown hgrow hat rfl hlt1; (try simp only [List.set_cons_zero, List.set_cons_succ, List.cons_append, List.nil_append] at H5); have FA := H5.facts; simp only [Facts, NeF, box, row, reg, cellsF, rByte, ne_eq, true_and, and_true, Nat.reduceAdd, Nat.zero_add] at FA))
      have HE : Hid ((ds.flatMap encVer ++ encVer ⟨data, A', c', made, gone, dead⟩) = (ds ++ [(⟨data, A', c', made, gone, dead⟩ : Ver)]).flatMap encVer) := by show _ = _; rw [List.flatMap_append]; simp
      go_roundw
      case rel =>
        refine ⟨k + 1, some ⟨g, 0, none⟩, cap, ds ++ [(⟨data, A', c', made, gone, dead⟩ : Ver)], HK1.out.1, by go_num, ⟨by rw [List.length_append, HV.out.1]; rfl, by rw [HPL.out, List.map_append]; rfl⟩, Lib.hid ?_⟩
        refine Hp.snocT (f := verF) ?_
        rw [← HE.out, List.length_append, List.length_singleton]
        show Hp w _ (_ :: _ :: _ :: _ :: rByte A' c' data :: ds.flatMap verF)
        refine Hp.sel (by repeat (first | (with_reducible exact H5) | (with_reducible apply Hp.alloc) | (with_reducible apply Hp.set) | (with_reducible apply Hp.drew) | (with_reducible apply Hp.drewN) | (with_reducible apply Hp.bytesW) | (with_reducible exact Upd.here) | (with_reducible exact Upd.hereR) | (with_reducible apply Upd.there) | (with_reducible apply Sz.alloc) | (with_reducible apply Sz.set) | (with_reducible apply Sz.drew) | (with_reducible apply Sz.drewN) | (with_reducible apply Sz.bytesW) | (with_reducible assumption) | (with_reducible exact Sz.base _))) ?_
        (try simp only [List.set_cons_zero, List.set_cons_succ])
        (repeat (first | (with_reducible exact Sel.nil) | (with_reducible apply Sel.cons) | (with_reducible exact Del.here) | (with_reducible apply Del.there))); refine Sel.tl ?_; (repeat (first | (with_reducible exact Tl.here) | (with_reducible apply Tl.there)))
      case measure => have := HK1.out.2; simp [intOf]; omega
    · have hkn : k = vs.length := by omega
      have HG : Hid (ds.map plV = vs.map plV) := by show _ = _; rw [HV.out.2, List.take_of_length_le (by omega)]
      have HL : Hid (ds.length = vs.length) := by show _ = _; rw [HV.out.1, hkn]
      have hk1 : ¬ (k : Int) < (vs.length : Int) := by omega
      clear hkn
      go_wp2_with fail
      refine bodyPost_ret (v := .agg #[.string path, .int .i64 first, .slice A1 ds.length d]) (by simp [results, Tryd.results66, go_sem, F] <;> omega) rfl ⟨A1, d, ds, rfl, HG.out, HL.out, ?_⟩
      show Hp w _ (row 71 4 (.slice A1 (ds).length d) (ds).length ((ds).flatMap encVer) :: ds.flatMap verF)
      refine Hp.sel (by repeat (first | (with_reducible exact H) | (with_reducible apply Hp.alloc) | (with_reducible apply Hp.set) | (with_reducible apply Hp.drew) | (with_reducible apply Hp.drewN) | (with_reducible apply Hp.bytesW) | (with_reducible exact Upd.here) | (with_reducible exact Upd.hereR) | (with_reducible apply Upd.there) | (with_reducible apply Sz.alloc) | (with_reducible apply Sz.set) | (with_reducible apply Sz.drew) | (with_reducible apply Sz.drewN) | (with_reducible apply Sz.bytesW) | (with_reducible assumption) | (with_reducible exact Sz.base _))) ?_
      (try simp only [List.set_cons_zero, List.set_cons_succ])
      (repeat (first | (with_reducible exact Sel.nil) | (with_reducible apply Sel.cons) | (with_reducible exact Del.here) | (with_reducible apply Del.there))); refine Sel.tl ?_; (repeat (first | (with_reducible exact Tl.here) | (with_reducible apply Tl.there)))
set_option maxHeartbeats 8000000 in
set_option maxRecDepth 10000 in
theorem l10Copy_hp (A : Option Addr) (n c : Nat) (us : List Entry) (w : World) (hr : Rd w w.heap.size 3 A n c (us.flatMap encEntry)) (hn : us.length = n) (hb20 : n ≤ 1048576) (hd : ∀ u ∈ us, DE 0 w u) (hvl : ∀ u ∈ us, u.vs.length ≤ 1048576) (hdl : ∀ u ∈ us, ∀ v ∈ u.vs, v.data.length ≤ 1048576) :
    Calls Tryd.prog 38 #[.agg #[.slice A n c]] w fun e w' => ∃ A' c', ∃ vs : List Entry, e = .returned (.agg #[.slice A' n c']) ∧ vs.map plE = us.map plE ∧ vs.length = n ∧ Hp w w' [stoE A' c' n vs] := by
  obtain ⟨i0, hi0, hz0, hz1, hz2⟩ := info_parts Tryd.infoEntry
  have hc := hr.2.1
  have hm := hr.2.2.1
  unfold maxLen at hm
  have H := Hp.nil w
  go_enter Tryd.func38, Tryd.ntmps38
  go_wp2_with fail
  have HH := Lib.hid H; clear H
  go_loopw [4] (fun i wr => ∃ (k : Nat) (A1 : Option Addr) (d : Nat) (ds : List Entry), k ≤ n ∧ i = .int .i64 k ∧ Hid (ds.length = k ∧ ds.map plE = (us.take k).map plE) ∧ Hid (Hp w wr ([row 62 3 (.slice A1 ds.length d) ds.length (ds.flatMap encEntry), box (w.heap.size + 1 + 1) 26 [.slice A1 ds.length d], box (w.heap.size + 1) 26 [.slice none 0 0], box w.heap.size 26 [.slice A n c]] ++ ds.flatMap entF))) (fun i _ => n - (intOf i).toNat)
  case atStart =>
    have H := HH.out
    exact ⟨0, none, 0, [], Nat.zero_le _, rfl, ⟨rfl, rfl⟩, Lib.hid (Hp.give (Hp.cons_nilRow (by repeat (first | (with_reducible exact H) | (with_reducible apply Hp.alloc) | (with_reducible apply Hp.set) | (with_reducible apply Hp.drew) | (with_reducible apply Hp.drewN) | (with_reducible apply Hp.bytesW) | (with_reducible exact Upd.here) | (with_reducible exact Upd.hereR) | (with_reducible apply Upd.there) | (with_reducible apply Sz.alloc) | (with_reducible apply Sz.set) | (with_reducible apply Sz.drew) | (with_reducible apply Sz.drewN) | (with_reducible apply Sz.bytesW) | (with_reducible assumption) | (with_reducible exact Sz.base _))) 62 3) [0, 1, 2, 3] (by decide) (by rfl))⟩
  case round =>
    clear HH
    obtain ⟨k, A1, d, ds, hk, rfl, HV, HP⟩ := hrel
    have H := HP.out
    simp only [List.cons_append, List.nil_append] at H
    have F := H.facts; simp only [Facts, NeF, box, row, reg, cellsF, rByte, ne_eq, true_and, and_true, Nat.reduceAdd, Nat.zero_add] at F
    by_cases hlt : k < n
    · obtain ⟨b2, off2, rfl, hb2⟩ := Rd.atV (enc := encEntry) hr hn encEntry_len (by omega)
      obtain ⟨d0, d1, d2⟩ := Rd.entAt hr hn (k := k) (by omega) rfl wr H.b
      have hkl : k < us.length := by omega
      have hk1 : (k : Int) < (n : Int) := by omega
      have hk0 : (0 : Int) ≤ (k : Int) := by omega
      have HK1 : Hid (k + 1 ≤ n ∧ n - (k + 1) < n - k) := ⟨by omega, by omega⟩
      have HPL : Hid ((us.take (k + 1)).map plE = ds.map plE ++ [plE us[k]]) := by show _ = _; rw [List.take_succ_eq_append_getElem hkl, List.map_append, ← HV.out.2]; rfl
      have hdk := (hd us[k] (List.getElem_mem hkl)).step H.b
      have hvk := hvl us[k] (List.getElem_mem hkl)
      have hlk := hdl us[k] (List.getElem_mem hkl)
      have hbw2 : b2 < wr.heap.size := Nat.lt_of_lt_of_le hb2 H.b.size
      have hbe2 : ¬ b2 = wr.heap.size ∧ ¬ wr.heap.size = b2 := by omega
      have hds : ds.length ≤ 1048576 := by have := HV.out.1; omega
      have hl : ds.length + 1 ≤ maxLen := by unfold maxLen; omega
      generalize us[k] = v at *
      clear hkl
      obtain ⟨path, first, vs, va, vc⟩ := v
      dsimp only at d0 d1 d2 hdk hvk hlk
      have HDK : Hid (∀ W, Below wr.heap.size wr W → DE 0 W ⟨path, first, vs, va, vc⟩) := fun W h => hdk.step h
      clear hdk
      go_wp2_with fail
      go_region_law (first | (go_simp; go_at_call 66; refine (l10CopyEntry_hp ⟨path, first, vs, va, vc⟩ _ (HDK.out _ (by first | exact Below.refl _ _ | exact (Below.refl _ _).drew | exact below_drewN (Below.refl _ _) _)) hvk hlk).mono ?_; rintro e w5 ⟨A', c', es', rfl, hp, hl', h1⟩; have HP9 := Lib.hid hp; clear hl' hp; have HC9 := Hp.call (by repeat (first | (with_reducible exact H) | (with_reducible apply Hp.alloc) | (with_reducible apply Hp.set) | (with_reducible apply Hp.drew) | (with_reducible apply Hp.drewN) | (with_reducible apply Hp.bytesW) | (with_reducible exact Upd.here) | (with_reducible exact Upd.hereR) | (with_reducible apply Upd.there) | (with_reducible apply Sz.alloc) | (with_reducible apply Sz.set) | (with_reducible apply Sz.drew) | (with_reducible apply Sz.drewN) | (with_reducible apply Sz.bytesW) | (with_reducible assumption) | (with_reducible exact Sz.base _))) h1; replace H := HC9.perm (List.perm_append_comm_assoc [row 62 3 (.slice A1 ds.length d) ds.length (ds.flatMap encEntry), box (w.heap.size + 1 + 1) 26 [.slice A1 ds.length d], box (w.heap.size + 1) 26 [.slice none 0 0], box w.heap.size 26 [.slice (some ⟨b2, off2, none⟩) n c]] (entF ⟨path, first, es', A', c'⟩) (ds.flatMap entF)); simp only [List.cons_append, List.nil_append] at H; clear HC9 h1 F; have F := H.facts; simp only [Facts, NeF, box, row, reg, cellsF, rByte, ne_eq, true_and, and_true, Nat.reduceAdd, Nat.zero_add] at F) | (refine step_append_lies _ (by rfl) _ _ 24 (by rfl) w.heap.size 62 i0 _ 3 _ Tryd.underlying24 hi0 hz0 hz1 hz2 (by rfl) (by decide) (.slice A1 (ds.length) d) (ds.length) _ (by rfl) (Hp.rowM (by repeat (first | (with_reducible exact H) | (with_reducible apply Hp.alloc) | (with_reducible apply Hp.set) | (with_reducible apply Hp.drew) | (with_reducible apply Hp.drewN) | (with_reducible apply Hp.bytesW) | (with_reducible exact Upd.here) | (with_reducible exact Upd.hereR) | (with_reducible apply Upd.there) | (with_reducible apply Sz.alloc) | (with_reducible apply Sz.set) | (with_reducible apply Sz.drew) | (with_reducible apply Sz.drewN) | (with_reducible apply Sz.bytesW) | (with_reducible assumption) | (with_reducible exact Sz.base _))) (by repeat (first | (with_reducible exact List.mem_cons_self) | (with_reducible apply List.mem_cons_of_mem)))) ⟨w5.heap.size, 0, none⟩ 1 1 (encEntry ⟨path, first, es', A', c'⟩) (by rfl) (by rfl) (Hp.news (by repeat (first | (with_reducible exact H) | (with_reducible apply Hp.alloc) | (with_reducible apply Hp.set) | (with_reducible apply Hp.drew) | (with_reducible apply Hp.drewN) | (with_reducible apply Hp.bytesW) | (with_reducible exact Upd.here) | (with_reducible exact Upd.hereR) | (with_reducible apply Upd.there) | (with_reducible apply Sz.alloc) | (with_reducible apply Sz.set) | (with_reducible apply Sz.drew) | (with_reducible apply Sz.drewN) | (with_reducible apply Sz.bytesW) | (with_reducible assumption) | (with_reducible exact Sz.base _))) 0 (by rfl)) (oneEntry ⟨path, first, es', A', c'⟩) (by decide) hl (by omega) (Hp.b (by repeat (first | (with_reducible exact H) | (with_reducible apply Hp.alloc) | (with_reducible apply Hp.set) | (with_reducible apply Hp.drew) | (with_reducible apply Hp.drewN) | (with_reducible apply Hp.bytesW) | (with_reducible exact Upd.here) | (with_reducible exact Upd.hereR) | (with_reducible apply Upd.there) | (with_reducible apply Sz.alloc) | (with_reducible apply Sz.set) | (with_reducible apply Sz.drew) | (with_reducible apply Sz.drewN) | (with_reducible apply Sz.bytesW) | (with_reducible assumption) | (with_reducible exact Sz.base _)))).size _ rfl ?_; intro g cap wa hown hgrow hat hlt1; have H5 := Hp.appM (by repeat (first | (with_reducible exact H) | (with_reducible apply Hp.alloc) | (with_reducible apply Hp.set) | (with_reducible apply Hp.drew) | (with_reducible apply Hp.drewN) | (with_reducible apply Hp.bytesW) | (with_reducible exact Upd.here) | (with_reducible exact Upd.hereR) | (with_reducible apply Upd.there) | (with_reducible apply Sz.alloc) | (with_reducible apply Sz.set) | (with_reducible apply Sz.drew) | (with_reducible apply Sz.drewN) | (with_reducible apply Sz.bytesW) | (with_reducible assumption) | (with_reducible exact Sz.base _))) (by repeat (first | (with_reducible exact Rep.here) | (with_reducible apply Rep.there))) hown hgrow hat rfl hlt1; (try simp only [List.set_cons_zero, List.set_cons_succ, List.cons_append, List.nil_append] at H5); have FA := H5.facts; simp only [Facts, NeF, box, row, reg, cellsF, rByte, ne_eq, true_and, and_true, Nat.reduceAdd, Nat.zero_add] at FA))
      all_goals
        have HPE : Hid (plE ⟨path, first, es', A', c'⟩ = plE ⟨path, first, vs, va, vc⟩) := by show _ = _; simp only [plE]; rw [HP9.out]
        have HE : Hid ((ds.flatMap encEntry ++ encEntry ⟨path, first, es', A', c'⟩) = (ds ++ [(⟨path, first, es', A', c'⟩ : Entry)]).flatMap encEntry) := by show _ = _; rw [List.flatMap_append]; simp
        go_wp2_with fail
        go_roundw
        case rel =>
          refine ⟨k + 1, some ⟨g, 0, none⟩, cap, ds ++ [(⟨path, first, es', A', c'⟩ : Entry)], HK1.out.1, by go_num, ⟨by rw [List.length_append, HV.out.1]; rfl, by rw [HPL.out, List.map_append, ← HPE.out]; rfl⟩, Lib.hid ?_⟩
          refine Hp.snocT (f := entF) ?_
          rw [← HE.out, List.length_append, List.length_singleton]
          show Hp w _ (_ :: _ :: _ :: _ :: (entF ⟨path, first, es', A', c'⟩ ++ ds.flatMap entF))
          refine Hp.sel (by repeat (first | (with_reducible exact H5) | (with_reducible apply Hp.alloc) | (with_reducible apply Hp.set) | (with_reducible apply Hp.drew) | (with_reducible apply Hp.drewN) | (with_reducible apply Hp.bytesW) | (with_reducible exact Upd.here) | (with_reducible exact Upd.hereR) | (with_reducible apply Upd.there) | (with_reducible apply Sz.alloc) | (with_reducible apply Sz.set) | (with_reducible apply Sz.drew) | (with_reducible apply Sz.drewN) | (with_reducible apply Sz.bytesW) | (with_reducible assumption) | (with_reducible exact Sz.base _))) ?_
          (try simp only [List.set_cons_zero, List.set_cons_succ])
          (repeat (first | (with_reducible exact Sel.nil) | (with_reducible apply Sel.cons) | (with_reducible exact Del.here) | (with_reducible apply Del.there))); refine Sel.tl ?_; (repeat (first | (with_reducible exact Tl.here) | (with_reducible apply Tl.there)))
        case measure => have := HK1.out.2; simp [intOf]; omega
    · have hkn : k = n := by omega
      have HG : Hid (ds.map plE = us.map plE) := by show _ = _; rw [HV.out.2, List.take_of_length_le (by omega)]
      have hk1 : ¬ (k : Int) < (n : Int) := by omega
      obtain rfl : n = ds.length := by have := HV.out.1; omega
      clear hkn
      go_wp2_with fail
      refine bodyPost_ret (v := .agg #[.slice A1 ds.length d]) (by simp [results, Tryd.results38, go_sem, F] <;> omega) rfl ⟨A1, d, rfl, ds, HG.out, rfl, ?_⟩
      refine Hp.pack [] (stoR A1 d ds.length ds) ?_
      show Hp w _ (row 62 3 (.slice A1 ds.length d) ds.length (ds.flatMap encEntry) :: ds.flatMap entF)
      refine Hp.sel (by repeat (first | (with_reducible exact H) | (with_reducible apply Hp.alloc) | (with_reducible apply Hp.set) | (with_reducible apply Hp.drew) | (with_reducible apply Hp.drewN) | (with_reducible apply Hp.bytesW) | (with_reducible exact Upd.here) | (with_reducible exact Upd.hereR) | (with_reducible apply Upd.there) | (with_reducible apply Sz.alloc) | (with_reducible apply Sz.set) | (with_reducible apply Sz.drew) | (with_reducible apply Sz.drewN) | (with_reducible apply Sz.bytesW) | (with_reducible assumption) | (with_reducible exact Sz.base _))) ?_
      (try simp only [List.set_cons_zero, List.set_cons_succ])
      (repeat (first | (with_reducible exact Sel.nil) | (with_reducible apply Sel.cons) | (with_reducible exact Del.here) | (with_reducible apply Del.there))); refine Sel.tl ?_; (repeat (first | (with_reducible exact Tl.here) | (with_reducible apply Tl.there)))
end Go.Proofs.YtklmcbabpncfmaaDoor

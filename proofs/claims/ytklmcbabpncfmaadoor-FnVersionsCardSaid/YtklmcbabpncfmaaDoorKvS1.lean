/- Stores: a version put at a new path (the program's). No condition. -/
import Derived.Test.YtklmcbabpncfmaaDoorM3
import Derived.Test.YtklmcbabpncfmaaDoorM2
import Derived.Test.YtklmcbabpncfmaaDoorKvD
import Derived.Test.YtklmcbabpncfmaaDoorKvG
import Derived.Test.YtklmcbabpncfmaaDoorKvH
import Derived.Test.YtklmcbabpncfmaaDoorStoreC
import Derived.Test.YtklmcbabpncfmaaDoorLwGetKv
import Derived.Deep.DeepCutAuto
import Derived.Deep.RegionHeld3
import Derived.Deep.RegionLaw
namespace Go.Proofs.YtklmcbabpncfmaaDoor
open Go.RowKit
set_option linter.unusedVariables false
set_option linter.unusedSimpArgs false
set_option maxHeartbeats 32000000 in
set_option maxRecDepth 10000 in
theorem putKvB_hp (A : Option Addr) (n c : Nat) (us : List Entry) (s : ByteArray) (LA : Option Addr) (ln lc : Nat) (ls : List UInt8) (cas now : Int) (rs : List Entry) (rc rm : Int) (w : World) (hdr : putK us s ls cas now = (rs, rc, rm)) (hr : Rd w w.heap.size 3 A n c (us.flatMap encEntry)) (hn : us.length = n) (hb20 : n ≤ 1048576) (hsz : ∀ u ∈ us, u.path.size ≤ maxLen) (hd : ∀ u ∈ us, DE 0 w u) (hvl : ∀ u ∈ us, u.vs.length ≤ 1048576) (hdl : ∀ u ∈ us, ∀ v ∈ u.vs, v.data.length ≤ 1048576) (hrl : Rd w w.heap.size 1 LA ln lc (ls.flatMap encByte)) (hnl : ls.length = ln) (hlb : ln ≤ 1048576) (hs : s.size ≤ maxLen) (hml : mlOk w) (h1 : storeOk us = true) (h2 : pathF s = true) (h3 : ls.length ≤ 300) (h4 : inR now 0 1000000000 = true) (hns : cas < 0 ∨ cas = 0) (hall : ∀ u ∈ us, hasP s u = false) :
    Calls Tryd.prog 42 #[.agg #[.slice A n c], .string s, .slice LA ln lc, .int .i64 cas, .int .i64 now] w fun e w' => ∃ A' c', ∃ vs : List Entry, e = .returned (.tuple #[.agg #[.slice A' rs.length c'], .int .i64 rc, .int .i64 rm]) ∧ vs.map plE = rs.map plE ∧ vs.length = rs.length ∧ Hp w w' [stoX A' c' rs.length vs] := by
  obtain ⟨j0, hj0, hy0, hy1, hy2⟩ := info_parts Tryd.infoVer
  subst hn hnl
  have hc := hr.2.1
  have hm := hr.2.2.1
  unfold maxLen at hm
  have hlm := hrl.2.2.1
  have hlc := hrl.2.1
  unfold maxLen at hlm
  have H := Hp.nil w
  have hri := store_rises h1
  have hh := bsE_miss hall
  have hx : ixP (hasP s) us 0 = -1 := by
    rcases ixP_spec (hasP s) us 0 with ⟨hx, -⟩ | ⟨i, hi, -, hhit, -⟩
    · exact hx
    · rw [hall _ (List.getElem_mem hi)] at hhit; cases hhit
  have HD2 : Hid ((if us.length < 60 then (insK us s ⟨s, 1, [newV ls now], none, 0⟩, (0 : Int), (1 : Int)) else (us, 6, 0)) = (rs, rc, rm)) := by
    refine Eq.trans (Eq.symm ?_) hdr
    have h9 : storeOk (insK us s ⟨s, 1, [newV ls now], none, 0⟩) = decide (us.length < 60) := ins_ok h1 h2 hall (newV_ok h3 h4)
    rw [putK, if_pos (by simp [h1, h2, h4]; omega), curK, hx, if_neg (by rintro ⟨a1, a2⟩; rw [if_neg (by omega)] at a2; omega), if_neg (by omega), h9]
    by_cases h8 : us.length < 60
    · rw [decide_eq_true h8, if_pos rfl, if_pos h8]
    · rw [decide_eq_false h8, if_neg (by decide), if_neg h8]
  clear hdr hx
  have hs9 : us.length ≤ 60 := (ok_entry h1).1
  obtain ⟨p1, -, -⟩ := insE_pos (store_rises h1) hall
  have HUN : Hid (insK us s ⟨s, 1, [newV ls now], none, 0⟩ = us.take (bsAt (cfE s) us) ++ ⟨s, 1, [newV ls now], none, 0⟩ :: us.drop (bsAt (cfE s) us)) := rfl
  clear hall
  have h3i : ¬ (300 : Int) < (ls.length : Int) := by omega
  clear h3
  go_enter Tryd.func42, Tryd.ntmps42
  go_wp2_with (first | (go_at_call 41; refine (cloneStore_hp _ us.length c us _ (hr.grow (Hp.b (by repeat (first | (with_reducible exact H) | (with_reducible apply Hp.alloc) | (with_reducible apply Hp.set) | (with_reducible apply Hp.drew) | (with_reducible apply Hp.drewN) | (with_reducible apply Hp.bytesW) | (with_reducible exact Upd.here) | (with_reducible exact Upd.hereR) | (with_reducible apply Upd.there) | (with_reducible apply Sz.alloc) | (with_reducible apply Sz.set) | (with_reducible apply Sz.drew) | (with_reducible apply Sz.drewN) | (with_reducible apply Sz.bytesW) | (with_reducible assumption) | (with_reducible exact Sz.base _))))) rfl hb20 (fun u hu => (hd u hu).step (Hp.b (by repeat (first | (with_reducible exact H) | (with_reducible apply Hp.alloc) | (with_reducible apply Hp.set) | (with_reducible apply Hp.drew) | (with_reducible apply Hp.drewN) | (with_reducible apply Hp.bytesW) | (with_reducible exact Upd.here) | (with_reducible exact Upd.hereR) | (with_reducible apply Upd.there) | (with_reducible apply Sz.alloc) | (with_reducible apply Sz.set) | (with_reducible apply Sz.drew) | (with_reducible apply Sz.drewN) | (with_reducible apply Sz.bytesW) | (with_reducible assumption) | (with_reducible exact Sz.base _))))) hvl hdl).mono ?_; rintro e w3 ⟨A3, c3, vs3, rfl, hp3, hl3, q3⟩; replace H := Hp.call (by repeat (first | (with_reducible exact H) | (with_reducible apply Hp.alloc) | (with_reducible apply Hp.set) | (with_reducible apply Hp.drew) | (with_reducible apply Hp.drewN) | (with_reducible apply Hp.bytesW) | (with_reducible exact Upd.here) | (with_reducible exact Upd.hereR) | (with_reducible apply Upd.there) | (with_reducible apply Sz.alloc) | (with_reducible apply Sz.set) | (with_reducible apply Sz.drew) | (with_reducible apply Sz.drewN) | (with_reducible apply Sz.bytesW) | (with_reducible assumption) | (with_reducible exact Sz.base _))) q3; (try simp only [List.set_cons_zero, List.set_cons_succ, List.cons_append, List.nil_append] at H); clear q3; (try clear F); have F := H.facts; simp only [Facts, NeF, box, row, reg, cellsF, rByte, ne_eq, true_and, and_true, Nat.reduceAdd, Nat.zero_add] at F; have HP3 := Lib.hid hp3; have HL3 := Lib.hid hl3; clear hp3 hl3) | (go_at_call 53; refine (isPath_any s _ hs (hml.on (Hp.b (by repeat (first | (with_reducible exact H) | (with_reducible apply Hp.alloc) | (with_reducible apply Hp.set) | (with_reducible apply Hp.drew) | (with_reducible apply Hp.drewN) | (with_reducible apply Hp.bytesW) | (with_reducible exact Upd.here) | (with_reducible exact Upd.hereR) | (with_reducible apply Upd.there) | (with_reducible apply Sz.alloc) | (with_reducible apply Sz.set) | (with_reducible apply Sz.drew) | (with_reducible apply Sz.drewN) | (with_reducible apply Sz.bytesW) | (with_reducible assumption) | (with_reducible exact Sz.base _)))))).mono ?_; rintro e w0 ⟨rfl, q0⟩; rw [h2]; replace H := Hp.step (by repeat (first | (with_reducible exact H) | (with_reducible apply Hp.alloc) | (with_reducible apply Hp.set) | (with_reducible apply Hp.drew) | (with_reducible apply Hp.drewN) | (with_reducible apply Hp.bytesW) | (with_reducible exact Upd.here) | (with_reducible exact Upd.hereR) | (with_reducible apply Upd.there) | (with_reducible apply Sz.alloc) | (with_reducible apply Sz.set) | (with_reducible apply Sz.drew) | (with_reducible apply Sz.drewN) | (with_reducible apply Sz.bytesW) | (with_reducible assumption) | (with_reducible exact Sz.base _))) q0; (try simp only [List.set_cons_zero, List.set_cons_succ, List.cons_append, List.nil_append] at H); clear q0; (try clear F); have F := H.facts; simp only [Facts, NeF, box, row, reg, cellsF, rByte, ne_eq, true_and, and_true, Nat.reduceAdd, Nat.zero_add] at F) | (go_at_call 67; refine (within_any _ _ _ _).mono ?_; rintro e w' ⟨rfl, rfl⟩; rw [h4]))
  refine (entryIndex_any _ us.length c us s _ (hr.grow (Hp.b (by repeat (first | (with_reducible exact H) | (with_reducible apply Hp.alloc) | (with_reducible apply Hp.set) | (with_reducible apply Hp.drew) | (with_reducible apply Hp.drewN) | (with_reducible apply Hp.bytesW) | (with_reducible exact Upd.here) | (with_reducible exact Upd.hereR) | (with_reducible apply Upd.there) | (with_reducible apply Sz.alloc) | (with_reducible apply Sz.set) | (with_reducible apply Sz.drew) | (with_reducible apply Sz.drewN) | (with_reducible apply Sz.bytesW) | (with_reducible assumption) | (with_reducible exact Sz.base _))))) rfl hb20 hri).mono ?_
  rintro e w1 ⟨rfl, q1⟩
  rw [hh]
  replace H := Hp.step (by repeat (first | (with_reducible exact H) | (with_reducible apply Hp.alloc) | (with_reducible apply Hp.set) | (with_reducible apply Hp.drew) | (with_reducible apply Hp.drewN) | (with_reducible apply Hp.bytesW) | (with_reducible exact Upd.here) | (with_reducible exact Upd.hereR) | (with_reducible apply Upd.there) | (with_reducible apply Sz.alloc) | (with_reducible apply Sz.set) | (with_reducible apply Sz.drew) | (with_reducible apply Sz.drewN) | (with_reducible apply Sz.bytesW) | (with_reducible assumption) | (with_reducible exact Sz.base _))) q1; (try simp only [List.set_cons_zero, List.set_cons_succ, List.cons_append, List.nil_append] at H); clear q1 F hh hri h1 h2 h4; have F := H.facts; simp only [Facts, NeF, box, row, reg, cellsF, rByte, ne_eq, true_and, and_true, Nat.reduceAdd, Nat.zero_add] at F
  generalize bsAt (cfE s) us = pz at *
  go_upto_region 8 with fail
  go_cut [56] (fun s56 wc => s56 = .bool false ∧ Hp w wc [box w3.heap.size 26 [.slice A3 us.length c3], stoE A3 c3 us.length vs3, box (w.heap.size + 1) 26 [.slice none 0 0], box w.heap.size 26 [.slice A us.length c]])
  case first =>
    rcases hns with c0 | c0
    · have c1 : decide (0 ≤ cas) = false := decide_eq_false (by omega)
      go_wp2_with fail
      go_meet
      exact ⟨rfl, (by refine Hp.sel (by repeat (first | (with_reducible exact H) | (with_reducible apply Hp.alloc) | (with_reducible apply Hp.set) | (with_reducible apply Hp.drew) | (with_reducible apply Hp.drewN) | (with_reducible apply Hp.bytesW) | (with_reducible exact Upd.here) | (with_reducible exact Upd.hereR) | (with_reducible apply Upd.there) | (with_reducible apply Sz.alloc) | (with_reducible apply Sz.set) | (with_reducible apply Sz.drew) | (with_reducible apply Sz.drewN) | (with_reducible apply Sz.bytesW) | (with_reducible assumption) | (with_reducible exact Sz.base _))) ?_; (try simp only [List.set_cons_zero, List.set_cons_succ]); exact (by repeat (first | (with_reducible exact Sel.nil) | (with_reducible apply Sel.cons) | (with_reducible exact Del.here) | (with_reducible apply Del.there))))⟩
    · have c1 : decide (0 ≤ cas) = true := decide_eq_true (by omega)
      have c2 : (cas != 0) = false := by simp [c0]
      clear c0
      go_wp2_with fail
      go_meet
      exact ⟨rfl, (by refine Hp.sel (by repeat (first | (with_reducible exact H) | (with_reducible apply Hp.alloc) | (with_reducible apply Hp.set) | (with_reducible apply Hp.drew) | (with_reducible apply Hp.drewN) | (with_reducible apply Hp.bytesW) | (with_reducible exact Upd.here) | (with_reducible exact Upd.hereR) | (with_reducible apply Upd.there) | (with_reducible apply Sz.alloc) | (with_reducible apply Sz.set) | (with_reducible apply Sz.drew) | (with_reducible apply Sz.drewN) | (with_reducible apply Sz.bytesW) | (with_reducible assumption) | (with_reducible exact Sz.base _))) ?_; (try simp only [List.set_cons_zero, List.set_cons_succ]); exact (by repeat (first | (with_reducible exact Sel.nil) | (with_reducible apply Sel.cons) | (with_reducible exact Del.here) | (with_reducible apply Del.there))))⟩
  case rest =>
  clear H F hns
  obtain ⟨rfl, H⟩ := hcut
  have F := H.facts; simp only [Facts, NeF, box, row, reg, cellsF, rByte, ne_eq, true_and, and_true, Nat.reduceAdd, Nat.zero_add] at F
  by_cases h60 : us.length < 60
  · have HR : Hid ((insK us s ⟨s, 1, [newV ls now], none, 0⟩, (0 : Int), (1 : Int)) = (rs, rc, rm)) := by show _ = _; rw [← HD2.out, if_pos h60]
    have hn6 : ((us.length : Int) == 60) = false := beq_eq_false_iff_ne.2 (by omega)
    have hn7 : decide ((us.length : Int) = 60) = false := decide_eq_false (by omega)
    clear h60 HD2
    go_wp2_with fail
    refine call_at (w0 := w) (by repeat (first | (with_reducible exact H) | (with_reducible apply Hp.alloc) | (with_reducible apply Hp.set) | (with_reducible apply Hp.drew) | (with_reducible apply Hp.drewN) | (with_reducible apply Hp.bytesW) | (with_reducible exact Upd.here) | (with_reducible exact Upd.hereR) | (with_reducible apply Upd.there) | (with_reducible apply Sz.alloc) | (with_reducible apply Sz.set) | (with_reducible apply Sz.drew) | (with_reducible apply Sz.drewN) | (with_reducible apply Sz.bytesW) | (with_reducible assumption) | (with_reducible exact Sz.base _))) fun H7 => ?_
    (try simp only [List.set_cons_zero, List.set_cons_succ, List.cons_append, List.nil_append] at H7)
    have H8 := stoE_del (A := A3) (c := c3) (n := us.length) (es := vs3) H7 (by repeat (first | (with_reducible exact Del.here) | (with_reducible apply Del.there)))
    simp only [List.cons_append, List.nil_append] at H8
    refine (insEntry_hpn A3 us.length c3 pz _ vs3 (⟨s, 1, [], none, 0⟩ : Entry) HL3.out H8 (by repeat (first | (with_reducible exact List.mem_cons_self) | (with_reducible apply List.mem_cons_of_mem))) (by show box _ _ [Value.string s, .int .i64 1, .slice none 0 0] ∈ _; exact (by repeat (first | (with_reducible exact List.mem_cons_self) | (with_reducible apply List.mem_cons_of_mem)))) hb20 p1 (Hp.ne_box H8 (by (repeat (first | (with_reducible exact Sel.nil) | (with_reducible apply Sel.cons) | (with_reducible exact Del.here) | (with_reducible apply Del.there)))))).mono ?_
    rintro e w5 ⟨A5, c5, rfl, h5⟩
    have H9 := h5 _ (by repeat (first | (with_reducible exact Rep.here) | (with_reducible apply Rep.there)))
    (try simp only [List.set_cons_zero, List.set_cons_succ, List.cons_append, List.nil_append] at H9)
    clear h5 H7 H8 H F
    have HZS : Hid (vs3.take pz ++ (⟨s, 1, [], none, 0⟩ : Entry) :: vs3.drop pz = vs3.take pz ++ (⟨s, 1, [], none, 0⟩ : Entry) :: vs3.drop pz) := rfl
    have hzl : (vs3.take pz ++ (⟨s, 1, [], none, 0⟩ : Entry) :: vs3.drop pz).length = us.length + 1 := by rw [insAt_len (by rw [HL3.out]; exact p1), HL3.out]
    have hzg : (vs3.take pz ++ (⟨s, 1, [], none, 0⟩ : Entry) :: vs3.drop pz)[pz]? = some (⟨s, 1, [], none, 0⟩ : Entry) := by rw [ins_get (by rw [HL3.out]; exact p1), if_neg (by omega), if_pos rfl]
    have HZT : Hid (∀ u : Entry, (vs3.take pz ++ (⟨s, 1, [], none, 0⟩ : Entry) :: vs3.drop pz).set pz u = vs3.take pz ++ u :: vs3.drop pz) := fun u => by
      refine List.ext_getElem? fun j => ?_
      rw [List.getElem?_set, hzl, ins_get (by rw [HL3.out]; exact p1), ins_get (by rw [HL3.out]; exact p1)]
      by_cases e1 : pz = j
      · subst e1; rw [if_pos rfl, if_pos (by omega), if_neg (by omega), if_pos rfl]
      · rw [if_neg e1]
        split
        · rfl
        · rw [if_neg (by omega), if_neg (by omega)]
    clear HZS
    generalize vs3.take pz ++ (⟨s, 1, [], none, 0⟩ : Entry) :: vs3.drop pz = zs at *
    obtain ⟨g5, rfl⟩ := rowGm (H9.rowM (t := 62) (k := 3) (v := .slice A5 (us.length + 1) c5) (n := us.length + 1) (xs := zs.flatMap encEntry) (by repeat (first | (with_reducible exact List.mem_cons_self) | (with_reducible apply List.mem_cons_of_mem)))) (by omega)
    have hrc : ∀ (W : World) (L : List Ent), Hp w W L → row 62 3 (.slice (some ⟨g5, 0, none⟩) (us.length + 1) c5) (us.length + 1) (zs.flatMap encEntry) ∈ L → _ := fun W L h hm => entCells (h.rowM hm) hzl hzg
    have HRC := Lib.hid hrc; clear hrc
    have HZL := Lib.hid hzl
    have HZG := Lib.hid hzg
    have hpz0 : (0 : Int) ≤ (pz : Int) := by omega
    have hpz9 : (pz : Int) < (us.length : Int) + 1 := by omega
    clear hzl hzg
    have H := Hp.cons_nilRow H9 71 4
    clear H9
    have F := H.facts; simp only [Facts, NeF, box, row, reg, cellsF, rByte, ne_eq, true_and, and_true, Nat.reduceAdd, Nat.zero_add] at F
    go_upto_region 15 with fail
    obtain ⟨W3, hW3⟩ : ∃ W3, W3 = w5.setCell ⟨w3.heap.size, 0, none⟩ (.slice (some ⟨g5, 0, none⟩) (us.length + 1) c5) := ⟨_, rfl⟩
    have H10 : Hp w W3 ([row 71 4 (.slice none 0 0) 0 [], row 62 3 (.slice (some ⟨g5, 0, none⟩) (us.length + 1) c5) (us.length + 1) (zs.flatMap encEntry), box w3.heap.size 26 [.slice (some ⟨g5, 0, none⟩) (us.length + 1) c5], box (w.heap.size + 1) 26 [.slice none 0 0], box w.heap.size 26 [.slice A us.length c]] ++ vs3.flatMap entF) := by
      rw [hW3]
      refine Hp.sel (by repeat (first | (with_reducible exact H) | (with_reducible apply Hp.alloc) | (with_reducible apply Hp.set) | (with_reducible apply Hp.drew) | (with_reducible apply Hp.drewN) | (with_reducible apply Hp.bytesW) | (with_reducible exact Upd.here) | (with_reducible exact Upd.hereR) | (with_reducible apply Upd.there) | (with_reducible apply Sz.alloc) | (with_reducible apply Sz.set) | (with_reducible apply Sz.drew) | (with_reducible apply Sz.drewN) | (with_reducible apply Sz.bytesW) | (with_reducible assumption) | (with_reducible exact Sz.base _))) ?_
      simp only [List.cons_append, List.nil_append, List.set_cons_zero, List.set_cons_succ]
      (repeat (first | (with_reducible exact Sel.nil) | (with_reducible apply Sel.cons) | (with_reducible exact Del.here) | (with_reducible apply Del.there))); (try (refine Sel.tl ?_; (repeat (first | (with_reducible exact Tl.here) | (with_reducible apply Tl.there)))))
    rw [← hW3]
    clear hW3 H F
    have H := H10; clear H10
    simp only [List.cons_append, List.nil_append] at H
    have F := H.facts; simp only [Facts, NeF, box, row, reg, cellsF, rByte, ne_eq, true_and, and_true, Nat.reduceAdd, Nat.zero_add] at F
    have hce := HRC.out _ _ H (by repeat (first | (with_reducible exact List.mem_cons_self) | (with_reducible apply List.mem_cons_of_mem)))
    obtain ⟨d0, d1, d2, z0, z1, z2⟩ := hce
    have hl3 : 0 + 1 ≤ maxLen := by unfold maxLen; omega
    go_region_law (first | (go_simp; go_at_call 71; refine (bytesClone_hp LA lc ls _ (hrl.grow (Hp.b (by repeat (first | (with_reducible exact H) | (with_reducible apply Hp.alloc) | (with_reducible apply Hp.set) | (with_reducible apply Hp.drew) | (with_reducible apply Hp.drewN) | (with_reducible apply Hp.bytesW) | (with_reducible exact Upd.here) | (with_reducible exact Upd.hereR) | (with_reducible apply Upd.there) | (with_reducible apply Sz.alloc) | (with_reducible apply Sz.set) | (with_reducible apply Sz.drew) | (with_reducible apply Sz.drewN) | (with_reducible apply Sz.bytesW) | (with_reducible assumption) | (with_reducible exact Sz.base _))))) hlb).mono ?_; rintro e w6 ⟨dA, dC, rfl, q6⟩; replace H := Hp.call (by repeat (first | (with_reducible exact H) | (with_reducible apply Hp.alloc) | (with_reducible apply Hp.set) | (with_reducible apply Hp.drew) | (with_reducible apply Hp.drewN) | (with_reducible apply Hp.bytesW) | (with_reducible exact Upd.here) | (with_reducible exact Upd.hereR) | (with_reducible apply Upd.there) | (with_reducible apply Sz.alloc) | (with_reducible apply Sz.set) | (with_reducible apply Sz.drew) | (with_reducible apply Sz.drewN) | (with_reducible apply Sz.bytesW) | (with_reducible assumption) | (with_reducible exact Sz.base _))) q6; (try simp only [List.set_cons_zero, List.set_cons_succ, List.cons_append, List.nil_append] at H); clear q6 F d0 d1 d2 z0 z1 z2; have F := H.facts; simp only [Facts, NeF, box, row, reg, cellsF, rByte, ne_eq, true_and, and_true, Nat.reduceAdd, Nat.zero_add] at F; have hce := HRC.out _ _ H (by repeat (first | (with_reducible exact List.mem_cons_self) | (with_reducible apply List.mem_cons_of_mem))); obtain ⟨d0, d1, d2, z0, z1, z2⟩ := hce; (try dsimp only at d0 d1 d2); have hg6 : g5 < w6.heap.size := ((H.ok (row 62 3 (.slice (some ⟨g5, 0, none⟩) (us.length + 1) c5) (us.length + 1) (zs.flatMap encEntry)) (by repeat (first | (with_reducible exact List.mem_cons_self) | (with_reducible apply List.mem_cons_of_mem)))).lt g5 rfl).2; have hge : ¬ g5 = w6.heap.size ∧ ¬ w6.heap.size = g5 := by omega) | ((refine step_append_lies _ (by rfl) _ _ 60 (by rfl) w.heap.size 71 j0 _ 4 _ Tryd.underlying60 hj0 hy0 hy1 hy2 (by rfl) (by decide) (.slice none (0) 0) (0) _ (by rfl) (Hp.rowM (by repeat (first | (with_reducible exact H) | (with_reducible apply Hp.alloc) | (with_reducible apply Hp.set) | (with_reducible apply Hp.drew) | (with_reducible apply Hp.drewN) | (with_reducible apply Hp.bytesW) | (with_reducible exact Upd.here) | (with_reducible exact Upd.hereR) | (with_reducible apply Upd.there) | (with_reducible apply Sz.alloc) | (with_reducible apply Sz.set) | (with_reducible apply Sz.drew) | (with_reducible apply Sz.drewN) | (with_reducible apply Sz.bytesW) | (with_reducible assumption) | (with_reducible exact Sz.base _))) (by repeat (first | (with_reducible exact List.mem_cons_self) | (with_reducible apply List.mem_cons_of_mem)))) ⟨w6.heap.size, 0, none⟩ 1 1 (encVer (⟨ls, dA, dC, now, false, false⟩ : Ver)) (by rfl) (by rfl) (Hp.news (by repeat (first | (with_reducible exact H) | (with_reducible apply Hp.alloc) | (with_reducible apply Hp.set) | (with_reducible apply Hp.drew) | (with_reducible apply Hp.drewN) | (with_reducible apply Hp.bytesW) | (with_reducible exact Upd.here) | (with_reducible exact Upd.hereR) | (with_reducible apply Upd.there) | (with_reducible apply Sz.alloc) | (with_reducible apply Sz.set) | (with_reducible apply Sz.drew) | (with_reducible apply Sz.drewN) | (with_reducible apply Sz.bytesW) | (with_reducible assumption) | (with_reducible exact Sz.base _))) 0 (by rfl)) (oneVer (⟨ls, dA, dC, now, false, false⟩ : Ver)) (by decide) hl3 (by omega) (Hp.b (by repeat (first | (with_reducible exact H) | (with_reducible apply Hp.alloc) | (with_reducible apply Hp.set) | (with_reducible apply Hp.drew) | (with_reducible apply Hp.drewN) | (with_reducible apply Hp.bytesW) | (with_reducible exact Upd.here) | (with_reducible exact Upd.hereR) | (with_reducible apply Upd.there) | (with_reducible apply Sz.alloc) | (with_reducible apply Sz.set) | (with_reducible apply Sz.drew) | (with_reducible apply Sz.drewN) | (with_reducible apply Sz.bytesW) | (with_reducible assumption) | (with_reducible exact Sz.base _)))).size _ rfl ?_; intro g cap wa hown hgrow hat hlt1; have H5 := Hp.appM (by repeat (first | (with_reducible exact H) | (with_reducible apply Hp.alloc) | (with_reducible apply Hp.set) | (with_reducible apply Hp.drew) | (with_reducible apply Hp.drewN) | (with_reducible apply Hp.bytesW) | (with_reducible exact Upd.here) | (with_reducible exact Upd.hereR) | (with_reducible apply Upd.there) | (with_reducible apply Sz.alloc) | (with_reducible apply Sz.set) | (with_reducible apply Sz.drew) | (with_reducible apply Sz.drewN) | (with_reducible apply Sz.bytesW) | (with_reducible assumption) | (with_reducible exact Sz.base _))) (by repeat (first | (with_reducible exact Rep.here) | (with_reducible apply Rep.there))) hown hgrow hat rfl hlt1; (try simp only [List.set_cons_zero, List.set_cons_succ, List.cons_append, List.nil_append] at H5); have FA := H5.facts; simp only [Facts, NeF, box, row, reg, cellsF, rByte, ne_eq, true_and, and_true, Nat.reduceAdd, Nat.zero_add] at FA); have hcf := HRC.out _ _ H5 (by repeat (first | (with_reducible exact List.mem_cons_self) | (with_reducible apply List.mem_cons_of_mem)))))
    all_goals
      obtain ⟨w9, hw9⟩ : ∃ w9, w9 = wa.setCell ⟨g5, pz * 3 + 2, none⟩ (.slice (some ⟨g, 0, none⟩) 1 cap) := ⟨_, rfl⟩
      have HSE : Hid ((zs.flatMap encEntry).set (pz * 3 + 2) (.slice (some ⟨g, 0, none⟩) 1 cap) = (vs3.take pz ++ (⟨s, 1, [(⟨ls, dA, dC, now, false, false⟩ : Ver)], some ⟨g, 0, none⟩, cap⟩ : Entry) :: vs3.drop pz).flatMap encEntry) := by
        show _ = _
        obtain ⟨h8, h9⟩ := List.getElem?_eq_some_iff.1 HZG.out
        rw [flat_set1 (v := (⟨s, 1, [(⟨ls, dA, dC, now, false, false⟩ : Ver)], some ⟨g, 0, none⟩, cap⟩ : Entry)) encEntry_len h8 (t := 2) rfl (by decide) (by rw [h9]; rfl), HZT.out]
      have H6 : Hp w w9 (row 62 3 (.slice (some ⟨g5, 0, none⟩) (us.length + 1) c5) (us.length + 1) ((vs3.take pz ++ (⟨s, 1, [(⟨ls, dA, dC, now, false, false⟩ : Ver)], some ⟨g, 0, none⟩, cap⟩ : Entry) :: vs3.drop pz).flatMap encEntry) :: row 71 4 (.slice (some ⟨g, 0, none⟩) 1 cap) 1 (encVer (⟨ls, dA, dC, now, false, false⟩ : Ver)) :: rByte dA dC ls :: ([box w3.heap.size 26 [.slice (some ⟨g5, 0, none⟩) (us.length + 1) c5], box (w.heap.size + 1) 26 [.slice none 0 0], box w.heap.size 26 [.slice A us.length c]] ++ vs3.flatMap entF)) := by
        rw [hw9, ← HSE.out]
        refine Hp.sel (by repeat (first | (with_reducible exact H5) | (with_reducible apply Hp.alloc) | (with_reducible apply Hp.set) | (with_reducible apply Hp.drew) | (with_reducible apply Hp.drewN) | (with_reducible apply Hp.bytesW) | (with_reducible exact Upd.here) | (with_reducible exact Upd.hereR) | (with_reducible apply Upd.there) | (with_reducible apply Sz.alloc) | (with_reducible apply Sz.set) | (with_reducible apply Sz.drew) | (with_reducible apply Sz.drewN) | (with_reducible apply Sz.bytesW) | (with_reducible assumption) | (with_reducible exact Sz.base _))) ?_
        simp only [List.cons_append, List.nil_append, List.set_cons_zero, List.set_cons_succ]
        (repeat (first | (with_reducible exact Sel.nil) | (with_reducible apply Sel.cons) | (with_reducible exact Del.here) | (with_reducible apply Del.there))); (try (refine Sel.tl ?_; (repeat (first | (with_reducible exact Tl.here) | (with_reducible apply Tl.there)))))
      have H7 := stoX_ins (D := [box w3.heap.size 26 [.slice (some ⟨g5, 0, none⟩) (us.length + 1) c5], box (w.heap.size + 1) 26 [.slice none 0 0], box w.heap.size 26 [.slice A us.length c]]) (u := (⟨s, 1, [(⟨ls, dA, dC, now, false, false⟩ : Ver)], some ⟨g, 0, none⟩, cap⟩ : Entry)) (H6.weak (Wk.cons (fun _ h => h) (fun h => h) (wk_of (e' := rowx 71 4 (some ⟨g, 0, none⟩) 1 cap (encVer (⟨ls, dA, dC, now, false, false⟩ : Ver))) (fun _ h => h) row_rowx)))
      have HPL : Hid ((vs3.take pz ++ (⟨s, 1, [(⟨ls, dA, dC, now, false, false⟩ : Ver)], some ⟨g, 0, none⟩, cap⟩ : Entry) :: vs3.drop pz).map plE = (insK us s ⟨s, 1, [newV ls now], none, 0⟩).map plE) := by
        show _ = _
        rw [HUN.out, List.map_append, List.map_cons, List.map_append, List.map_cons, List.map_take, List.map_drop, HP3.out, ← List.map_take, ← List.map_drop]; rfl
      have HLL : Hid ((vs3.take pz ++ (⟨s, 1, [(⟨ls, dA, dC, now, false, false⟩ : Ver)], some ⟨g, 0, none⟩, cap⟩ : Entry) :: vs3.drop pz).length = us.length + 1) := by show _ = _; rw [insAt_len (by rw [HL3.out]; exact p1), HL3.out]
      have HK : Hid (∀ (W : World) (L : List Ent), Hp w W L → row 62 3 (.slice (some ⟨g5, 0, none⟩) (us.length + 1) c5) (us.length + 1) ((vs3.take pz ++ (⟨s, 1, [(⟨ls, dA, dC, now, false, false⟩ : Ver)], some ⟨g, 0, none⟩, cap⟩ : Entry) :: vs3.drop pz).flatMap encEntry) ∈ L → _) := fun W L h hm => entCells (i := pz) (e := (⟨s, 1, [(⟨ls, dA, dC, now, false, false⟩ : Ver)], some ⟨g, 0, none⟩, cap⟩ : Entry)) (h.rowM hm) HLL.out (by rw [ins_get (by rw [HL3.out]; exact p1), if_neg (by omega), if_pos rfl])
      simp only [List.cons_append, List.nil_append] at H6
      have F9 := H6.facts; simp only [Facts, NeF, box, row, reg, cellsF, rByte, ne_eq, true_and, and_true, Nat.reduceAdd, Nat.zero_add] at F9
      have hck := HK.out _ _ H6 (by repeat (first | (with_reducible exact List.mem_cons_self) | (with_reducible apply List.mem_cons_of_mem)))
      clear HK
      obtain ⟨f0, f1, f2, y0, y1, y2⟩ := hck
      (try dsimp only at f0 f1 f2)
      rw [← hw9]
      clear hw9 H5 FA F H hcf hown hgrow hat hlt1
      generalize vs3.take pz ++ (⟨s, 1, [(⟨ls, dA, dC, now, false, false⟩ : Ver)], some ⟨g, 0, none⟩, cap⟩ : Entry) :: vs3.drop pz = ys at *
      go_wp2_with fail
      obtain ⟨h9, h10⟩ := Prod.mk.inj HR.out
      obtain ⟨rfl, rfl⟩ := Prod.mk.inj h10
      have HPR : Hid (ys.map plE = rs.map plE) := by show _ = _; rw [HPL.out, h9]
      have HLR : Hid (us.length + 1 = rs.length) := by show _ = _; have := congrArg List.length HPR.out; rw [List.length_map, List.length_map, HLL.out] at this; exact this
      refine bodyPost_ret (v := .tuple #[.agg #[.slice (some ⟨g5, 0, none⟩) (us.length + 1) c5], .int .i64 0, .int .i64 1]) (by simp [results, Tryd.results42, go_sem, F9] <;> omega) rfl ⟨some ⟨g5, 0, none⟩, c5, ys, by rw [← HLR.out], HPR.out, by rw [HLL.out, HLR.out], ?_⟩
      rw [← HLR.out]
      exact (by refine Hp.sel (by repeat (first | (with_reducible exact H7) | (with_reducible apply Hp.alloc) | (with_reducible apply Hp.set) | (with_reducible apply Hp.drew) | (with_reducible apply Hp.drewN) | (with_reducible apply Hp.bytesW) | (with_reducible exact Upd.here) | (with_reducible exact Upd.hereR) | (with_reducible apply Upd.there) | (with_reducible apply Sz.alloc) | (with_reducible apply Sz.set) | (with_reducible apply Sz.drew) | (with_reducible apply Sz.drewN) | (with_reducible apply Sz.bytesW) | (with_reducible assumption) | (with_reducible exact Sz.base _))) ?_; (try simp only [List.set_cons_zero, List.set_cons_succ]); exact (by repeat (first | (with_reducible exact Sel.nil) | (with_reducible apply Sel.cons) | (with_reducible exact Del.here) | (with_reducible apply Del.there))))
  · have HR : Hid ((us, (6 : Int), (0 : Int)) = (rs, rc, rm)) := by show _ = _; rw [← HD2.out, if_neg h60]
    have hn6 : ((us.length : Int) == 60) = true := beq_iff_eq.2 (by omega)
    have hn7 : decide ((us.length : Int) = 60) = true := decide_eq_true (by omega)
    have hn8 : (us.length : Int) = 60 := by omega
    clear h60 HD2
    go_wp2_with fail
    obtain ⟨rfl, h9⟩ := Prod.mk.inj HR.out
    obtain ⟨rfl, rfl⟩ := Prod.mk.inj h9
    refine bodyPost_ret (v := .tuple #[.agg #[.slice A3 us.length c3], .int .i64 6, .int .i64 0]) (by simp [results, Tryd.results42, go_sem, F] <;> omega) rfl ⟨A3, c3, vs3, rfl, HP3.out, HL3.out, Hp.toX (by refine Hp.sel (by repeat (first | (with_reducible exact H) | (with_reducible apply Hp.alloc) | (with_reducible apply Hp.set) | (with_reducible apply Hp.drew) | (with_reducible apply Hp.drewN) | (with_reducible apply Hp.bytesW) | (with_reducible exact Upd.here) | (with_reducible exact Upd.hereR) | (with_reducible apply Upd.there) | (with_reducible apply Sz.alloc) | (with_reducible apply Sz.set) | (with_reducible apply Sz.drew) | (with_reducible apply Sz.drewN) | (with_reducible apply Sz.bytesW) | (with_reducible assumption) | (with_reducible exact Sz.base _))) ?_; (try simp only [List.set_cons_zero, List.set_cons_succ]); exact (by repeat (first | (with_reducible exact Sel.nil) | (with_reducible apply Sel.cons) | (with_reducible exact Del.here) | (with_reducible apply Del.there))))⟩

end Go.Proofs.YtklmcbabpncfmaaDoor

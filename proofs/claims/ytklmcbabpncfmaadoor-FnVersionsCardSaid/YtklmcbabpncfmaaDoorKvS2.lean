/- Stores: a version put at a path that is there (the program's). No condition. -/
import Derived.Test.YtklmcbabpncfmaaDoorM3
import Derived.Test.YtklmcbabpncfmaaDoorM2
import Derived.Test.YtklmcbabpncfmaaDoorKvD
import Derived.Test.YtklmcbabpncfmaaDoorKvG
import Derived.Test.YtklmcbabpncfmaaDoorKvH
import Derived.Test.YtklmcbabpncfmaaDoorStoreC
import Derived.Test.YtklmcbabpncfmaaDoorLwGetKv
import Derived.Deep.DeepCutAuto
import Derived.Deep.RegionHeld3
import Derived.Deep.RegionLaw
namespace Go.Proofs.YtklmcbabpncfmaaDoor
open Go.RowKit
set_option linter.unusedVariables false
set_option linter.unusedSimpArgs false
set_option maxHeartbeats 32000000 in
set_option maxRecDepth 10000 in
theorem putKvC_hp (A : Option Addr) (n c : Nat) (us : List Entry) (s : ByteArray) (LA : Option Addr) (ln lc : Nat) (ls : List UInt8) (cas now : Int) (rs : List Entry) (rc rm : Int) (w : World) (hdr : putK us s ls cas now = (rs, rc, rm)) (hr : Rd w w.heap.size 3 A n c (us.flatMap encEntry)) (hn : us.length = n) (hb20 : n ≤ 1048576) (hsz : ∀ u ∈ us, u.path.size ≤ maxLen) (hd : ∀ u ∈ us, DE 0 w u) (hvl : ∀ u ∈ us, u.vs.length ≤ 1048576) (hdl : ∀ u ∈ us, ∀ v ∈ u.vs, v.data.length ≤ 1048576) (hrl : Rd w w.heap.size 1 LA ln lc (ls.flatMap encByte)) (hnl : ls.length = ln) (hlb : ln ≤ 1048576) (hs : s.size ≤ maxLen) (hml : mlOk w) (h1 : storeOk us = true) (h2 : pathF s = true) (h3 : ls.length ≤ 300) (h4 : inR now 0 1000000000 = true) (i : Nat) (hi : i < us.length) (hx : ixP (hasP s) us 0 = (i : Int)) (he : us[i].path = s) (hns : cas < 0 ∨ cas = lastE us[i]) :
    Calls Tryd.prog 42 #[.agg #[.slice A n c], .string s, .slice LA ln lc, .int .i64 cas, .int .i64 now] w fun e w' => ∃ A' c', ∃ vs : List Entry, e = .returned (.tuple #[.agg #[.slice A' rs.length c'], .int .i64 rc, .int .i64 rm]) ∧ vs.map plE = rs.map plE ∧ vs.length = rs.length ∧ Hp w w' [stoX A' c' rs.length vs] := by
  obtain ⟨j0, hj0, hy0, hy1, hy2⟩ := info_parts Tryd.infoVer
  subst hn hnl
  have hc := hr.2.1
  have hm := hr.2.2.1
  unfold maxLen at hm
  have hlm := hrl.2.2.1
  have hlc := hrl.2.1
  unfold maxLen at hlm
  have H := Hp.nil w
  have hri := store_rises h1
  obtain ⟨hat, hh⟩ := bsE_at hri hi he
  have hok := (ok_entry h1).2 us[i] (List.getElem_mem hi)
  have hcu : curK us s = lastE us[i] := by rw [curK, hx, if_pos (by omega), Int.toNat_natCast, List.getElem?_eq_getElem hi]; rfl
  have HPO : Hid (storeOk (us.set i (pushE (newV ls now) us[i])) = decide ((pushE (newV ls now) us[i]).first ≤ 1000000)) := push_ok h1 hi (newV_ok h3 h4)
  obtain ⟨cur, hcur⟩ : ∃ cur, cur = lastE us[i] := ⟨_, rfl⟩
  have hcb : 1 ≤ cur ∧ cur ≤ 1000010 := by rw [hcur]; unfold lastE; omega
  have HD2 : Hid ((if storeOk (us.set i (pushE (newV ls now) us[i])) = true then (us.set i (pushE (newV ls now) us[i]), (0 : Int), cur + 1) else (us, 6, 0)) = (rs, rc, rm)) := by
    refine Eq.trans (Eq.symm ?_) hdr
    rw [putK, if_pos (by simp [h1, h2, h4]; omega), hcu, if_neg (by omega), hx, if_pos (by omega), Int.toNat_natCast, modify_set hi, hcur]
  clear hdr hcu hx
  have hi0 : (0 : Int) ≤ (i : Int) := by omega
  have hi9 : (i : Int) < (us.length : Int) := by omega
  obtain ⟨b, off, rfl, hb⟩ := Rd.atV (enc := encEntry) hr rfl encEntry_len (by omega)
  have hcs : ∀ (W : World) (L : List Ent), Hp w W L → _ := fun W L h => Rd.entAt hr rfl (k := i) hi rfl W h.b
  have HCS := Lib.hid hcs; clear hcs
  obtain ⟨upath, ufirst, uvs, uva, uvc, HEU⟩ : ∃ upath ufirst uvs uva uvc, Hid (us[i] = ⟨upath, ufirst, uvs, uva, uvc⟩) := ⟨_, _, _, _, _, Lib.hid rfl⟩
  rw [HEU.out] at hok hcur
  unfold lastE at hcur
  dsimp only at hok hcur
  have hw1 : IntKind.i64.wrap (ufirst + (uvs.length : Int)) = ufirst + (uvs.length : Int) := by rw [IntKind.wrap_i64]; omega
  have hw2 : IntKind.i64.wrap (ufirst + (uvs.length : Int) - 1) = cur := by rw [IntKind.wrap_i64]; omega
  have hw3 : IntKind.i64.wrap (cur + 1) = cur + 1 := by rw [IntKind.wrap_i64]; omega
  have hns2 : cas < 0 ∨ cas = cur := by
    rcases hns with h | h
    · exact .inl h
    · right; rw [h, HEU.out, hcur]; rfl
  have HOK := Lib.hid hok
  clear hns hcur hok he
  have h3i : ¬ (300 : Int) < (ls.length : Int) := by omega
  clear h3
  go_enter Tryd.func42, Tryd.ntmps42
  go_wp2_with (first | (go_at_call 41; refine (cloneStore_hp _ us.length c us _ (hr.grow (Hp.b (by repeat (first | (with_reducible exact H) | (with_reducible apply Hp.alloc) | (with_reducible apply Hp.set) | (with_reducible apply Hp.drew) | (with_reducible apply Hp.drewN) | (with_reducible apply Hp.bytesW) | (with_reducible exact Upd.here) | (with_reducible exact Upd.hereR) | (with_reducible apply Upd.there) | (with_reducible apply Sz.alloc) | (with_reducible apply Sz.set) | (with_reducible apply Sz.drew) | (with_reducible apply Sz.drewN) | (with_reducible apply Sz.bytesW) | (with_reducible assumption) | (with_reducible exact Sz.base _))))) rfl hb20 (fun u hu => (hd u hu).step (Hp.b (by repeat (first | (with_reducible exact H) | (with_reducible apply Hp.alloc) | (with_reducible apply Hp.set) | (with_reducible apply Hp.drew) | (with_reducible apply Hp.drewN) | (with_reducible apply Hp.bytesW) | (with_reducible exact Upd.here) | (with_reducible exact Upd.hereR) | (with_reducible apply Upd.there) | (with_reducible apply Sz.alloc) | (with_reducible apply Sz.set) | (with_reducible apply Sz.drew) | (with_reducible apply Sz.drewN) | (with_reducible apply Sz.bytesW) | (with_reducible assumption) | (with_reducible exact Sz.base _))))) hvl hdl).mono ?_; rintro e w3 ⟨A3, c3, vs3, rfl, hp3, hl3, q3⟩; replace H := Hp.call (by repeat (first | (with_reducible exact H) | (with_reducible apply Hp.alloc) | (with_reducible apply Hp.set) | (with_reducible apply Hp.drew) | (with_reducible apply Hp.drewN) | (with_reducible apply Hp.bytesW) | (with_reducible exact Upd.here) | (with_reducible exact Upd.hereR) | (with_reducible apply Upd.there) | (with_reducible apply Sz.alloc) | (with_reducible apply Sz.set) | (with_reducible apply Sz.drew) | (with_reducible apply Sz.drewN) | (with_reducible apply Sz.bytesW) | (with_reducible assumption) | (with_reducible exact Sz.base _))) q3; (try simp only [List.set_cons_zero, List.set_cons_succ, List.cons_append, List.nil_append] at H); clear q3; (try clear F); have F := H.facts; simp only [Facts, NeF, box, row, reg, cellsF, rByte, ne_eq, true_and, and_true, Nat.reduceAdd, Nat.zero_add] at F; have HP3 := Lib.hid hp3; have HL3 := Lib.hid hl3; clear hp3 hl3) | (go_at_call 53; refine (isPath_any s _ hs (hml.on (Hp.b (by repeat (first | (with_reducible exact H) | (with_reducible apply Hp.alloc) | (with_reducible apply Hp.set) | (with_reducible apply Hp.drew) | (with_reducible apply Hp.drewN) | (with_reducible apply Hp.bytesW) | (with_reducible exact Upd.here) | (with_reducible exact Upd.hereR) | (with_reducible apply Upd.there) | (with_reducible apply Sz.alloc) | (with_reducible apply Sz.set) | (with_reducible apply Sz.drew) | (with_reducible apply Sz.drewN) | (with_reducible apply Sz.bytesW) | (with_reducible assumption) | (with_reducible exact Sz.base _)))))).mono ?_; rintro e w0 ⟨rfl, q0⟩; rw [h2]; replace H := Hp.step (by repeat (first | (with_reducible exact H) | (with_reducible apply Hp.alloc) | (with_reducible apply Hp.set) | (with_reducible apply Hp.drew) | (with_reducible apply Hp.drewN) | (with_reducible apply Hp.bytesW) | (with_reducible exact Upd.here) | (with_reducible exact Upd.hereR) | (with_reducible apply Upd.there) | (with_reducible apply Sz.alloc) | (with_reducible apply Sz.set) | (with_reducible apply Sz.drew) | (with_reducible apply Sz.drewN) | (with_reducible apply Sz.bytesW) | (with_reducible assumption) | (with_reducible exact Sz.base _))) q0; (try simp only [List.set_cons_zero, List.set_cons_succ, List.cons_append, List.nil_append] at H); clear q0; (try clear F); have F := H.facts; simp only [Facts, NeF, box, row, reg, cellsF, rByte, ne_eq, true_and, and_true, Nat.reduceAdd, Nat.zero_add] at F) | (go_at_call 67; refine (within_any _ _ _ _).mono ?_; rintro e w' ⟨rfl, rfl⟩; rw [h4]))
  refine (entryIndex_any _ us.length c us s _ (hr.grow (Hp.b (by repeat (first | (with_reducible exact H) | (with_reducible apply Hp.alloc) | (with_reducible apply Hp.set) | (with_reducible apply Hp.drew) | (with_reducible apply Hp.drewN) | (with_reducible apply Hp.bytesW) | (with_reducible exact Upd.here) | (with_reducible exact Upd.hereR) | (with_reducible apply Upd.there) | (with_reducible apply Sz.alloc) | (with_reducible apply Sz.set) | (with_reducible apply Sz.drew) | (with_reducible apply Sz.drewN) | (with_reducible apply Sz.bytesW) | (with_reducible assumption) | (with_reducible exact Sz.base _))))) rfl hb20 hri).mono ?_
  rintro e w1 ⟨rfl, q1⟩
  rw [hh, hat]
  replace H := Hp.step (by repeat (first | (with_reducible exact H) | (with_reducible apply Hp.alloc) | (with_reducible apply Hp.set) | (with_reducible apply Hp.drew) | (with_reducible apply Hp.drewN) | (with_reducible apply Hp.bytesW) | (with_reducible exact Upd.here) | (with_reducible exact Upd.hereR) | (with_reducible apply Upd.there) | (with_reducible apply Sz.alloc) | (with_reducible apply Sz.set) | (with_reducible apply Sz.drew) | (with_reducible apply Sz.drewN) | (with_reducible apply Sz.bytesW) | (with_reducible assumption) | (with_reducible exact Sz.base _))) q1; (try simp only [List.set_cons_zero, List.set_cons_succ, List.cons_append, List.nil_append] at H); clear q1 F hh hat hri h1 h2 h4; have F := H.facts; simp only [Facts, NeF, box, row, reg, cellsF, rByte, ne_eq, true_and, and_true, Nat.reduceAdd, Nat.zero_add] at F
  go_wp2_with fail
  have hbw : b < w1.heap.size := Nat.lt_of_lt_of_le hb H.b.size
  clear F
  (refine wp_region_quiet (C := fun W => Hp w W [box w3.heap.size 26 [.slice A3 us.length c3], stoE A3 c3 us.length vs3, box (w.heap.size + 1) 26 [.slice none 0 0], box w.heap.size 26 [.slice (some ⟨b, off, none⟩) us.length c]]) (by kernel_rfl) (by kernel_rfl) (by show Hp _ (World.drew _) _; exact (by repeat (first | (with_reducible exact H) | (with_reducible apply Hp.alloc) | (with_reducible apply Hp.set) | (with_reducible apply Hp.drew) | (with_reducible apply Hp.drewN) | (with_reducible apply Hp.bytesW) | (with_reducible exact Upd.here) | (with_reducible exact Upd.hereR) | (with_reducible apply Upd.there) | (with_reducible apply Sz.alloc) | (with_reducible apply Sz.set) | (with_reducible apply Sz.drew) | (with_reducible apply Sz.drewN) | (with_reducible apply Sz.bytesW) | (with_reducible assumption) | (with_reducible exact Sz.base _)))) ?_; (repeat (first | go_big_quiet_skip | (refine BigFrame.wpQuiet_want (by rfl) (fun K hK => ?_); unfold Oper.quiet; apply Exists.intro; refine ⟨fun W hW => ?_, hK _ ?_⟩; (focus (have G := hW.facts; simp only [Facts, NeF, box, row, reg, cellsF, rByte, ne_eq, true_and, and_true, Nat.reduceAdd, Nat.zero_add] at G; have q9 := HCS.out _ _ hW; rw [HEU.out] at q9; dsimp only at q9; go_simp; first | rfl | fail)); clear hK K; simp only [Act.put, List.setIfInBounds_toArray, List.set_cons_zero, List.set_cons_succ]))); refine wpQuiet_nil ?_; intro wq H; have F := H.facts; simp only [Facts, NeF, box, row, reg, cellsF, rByte, ne_eq, true_and, and_true, Nat.reduceAdd, Nat.zero_add] at F)
  (try go_upto_region 8 with fail)
  go_upto_region 8 with fail
  go_cut [56] (fun s56 wc => s56 = .bool false ∧ Hp w wc [box w3.heap.size 26 [.slice A3 us.length c3], stoE A3 c3 us.length vs3, box (w.heap.size + 1) 26 [.slice none 0 0], box w.heap.size 26 [.slice (some ⟨b, off, none⟩) us.length c]])
  case first =>
    rcases hns2 with c0 | c0
    · have c1 : decide (0 ≤ cas) = false := decide_eq_false (by omega)
      go_wp2_with fail
      go_meet
      exact ⟨rfl, (by refine Hp.sel (by repeat (first | (with_reducible exact H) | (with_reducible apply Hp.alloc) | (with_reducible apply Hp.set) | (with_reducible apply Hp.drew) | (with_reducible apply Hp.drewN) | (with_reducible apply Hp.bytesW) | (with_reducible exact Upd.here) | (with_reducible exact Upd.hereR) | (with_reducible apply Upd.there) | (with_reducible apply Sz.alloc) | (with_reducible apply Sz.set) | (with_reducible apply Sz.drew) | (with_reducible apply Sz.drewN) | (with_reducible apply Sz.bytesW) | (with_reducible assumption) | (with_reducible exact Sz.base _))) ?_; (try simp only [List.set_cons_zero, List.set_cons_succ]); exact (by repeat (first | (with_reducible exact Sel.nil) | (with_reducible apply Sel.cons) | (with_reducible exact Del.here) | (with_reducible apply Del.there))))⟩
    · have c1 : decide (0 ≤ cas) = true := decide_eq_true (by omega)
      have c2 : (cas != cur) = false := by simp [c0]
      clear c0
      go_wp2_with fail
      go_meet
      exact ⟨rfl, (by refine Hp.sel (by repeat (first | (with_reducible exact H) | (with_reducible apply Hp.alloc) | (with_reducible apply Hp.set) | (with_reducible apply Hp.drew) | (with_reducible apply Hp.drewN) | (with_reducible apply Hp.bytesW) | (with_reducible exact Upd.here) | (with_reducible exact Upd.hereR) | (with_reducible apply Upd.there) | (with_reducible apply Sz.alloc) | (with_reducible apply Sz.set) | (with_reducible apply Sz.drew) | (with_reducible apply Sz.drewN) | (with_reducible apply Sz.bytesW) | (with_reducible assumption) | (with_reducible exact Sz.base _))) ?_; (try simp only [List.set_cons_zero, List.set_cons_succ]); exact (by repeat (first | (with_reducible exact Sel.nil) | (with_reducible apply Sel.cons) | (with_reducible exact Del.here) | (with_reducible apply Del.there))))⟩
  case rest =>
  clear H F hns2
  obtain ⟨rfl, H⟩ := hcut
  have F := H.facts; simp only [Facts, NeF, box, row, reg, cellsF, rByte, ne_eq, true_and, and_true, Nat.reduceAdd, Nat.zero_add] at F
  have hi3 : i < vs3.length := by rw [HL3.out]; exact hi
  have hpe := plE_at HP3.out i hi3 hi
  rw [HEU.out] at hpe
  have hpf := congrArg Entry.first hpe
  have hpv := congrArg (fun e => e.vs.length) hpe
  simp only [plE, List.length_map] at hpf hpv
  obtain ⟨path, first, vs, va, vc, HE3⟩ : ∃ path first vs va vc, Hid (vs3[i] = ⟨path, first, vs, va, vc⟩) := ⟨_, _, _, _, _, Lib.hid rfl⟩
  rw [HE3.out] at hpf hpv hpe
  dsimp only at hpf hpv
  have HPE : Hid (plE ⟨path, first, vs, va, vc⟩ = plE us[i]) := by show _ = _; rw [hpe, HEU.out]
  clear hpe
  have hv1 : 1 ≤ vs.length := by have := HOK.out.2.2.1; omega
  have hv8 : vs.length ≤ 8 := by have := HOK.out.2.2.2.1; omega
  have hfb : 1 ≤ first ∧ first ≤ 1000000 := by rw [hpf]; exact HOK.out.2.1
  clear hpf hpv
  obtain ⟨N, H2, HCL0⟩ := stoE_openX (D := [box w3.heap.size 26 [.slice A3 us.length c3], box (w.heap.size + 1) 26 [.slice none 0 0], box w.heap.size 26 [.slice (some ⟨b, off, none⟩) us.length c]]) (by refine Hp.sel (by repeat (first | (with_reducible exact H) | (with_reducible apply Hp.alloc) | (with_reducible apply Hp.set) | (with_reducible apply Hp.drew) | (with_reducible apply Hp.drewN) | (with_reducible apply Hp.bytesW) | (with_reducible exact Upd.here) | (with_reducible exact Upd.hereR) | (with_reducible apply Upd.there) | (with_reducible apply Sz.alloc) | (with_reducible apply Sz.set) | (with_reducible apply Sz.drew) | (with_reducible apply Sz.drewN) | (with_reducible apply Sz.bytesW) | (with_reducible assumption) | (with_reducible exact Sz.base _))) ?_; (try simp only [List.set_cons_zero, List.set_cons_succ]); exact (by repeat (first | (with_reducible exact Sel.nil) | (with_reducible apply Sel.cons) | (with_reducible exact Del.here) | (with_reducible apply Del.there)))) hi3 HE3.out
  have HCL := Lib.hid HCL0; clear HCL0
  replace H := H2; clear H2
  obtain ⟨gv, rfl⟩ := rowGm (H.rowM List.mem_cons_self) (by omega)
  obtain ⟨g5, rfl⟩ := rowGm (H.rowM (List.mem_cons_of_mem _ List.mem_cons_self)) (by omega)
  simp only [List.cons_append, List.nil_append] at H
  have hrc : ∀ (W : World) (L : List Ent), Hp w W L → row 62 3 (.slice (some ⟨g5, 0, none⟩) us.length c3) us.length (vs3.flatMap encEntry) ∈ L → _ := fun W L h hm => entCells (i := i) (e := ⟨path, first, vs, some ⟨gv, 0, none⟩, vc⟩) (h.rowM hm) HL3.out (by rw [List.getElem?_eq_getElem hi3, HE3.out])
  have HRC := Lib.hid hrc; clear hrc
  clear F
  have F := H.facts; simp only [Facts, NeF, box, row, reg, cellsF, rByte, ne_eq, true_and, and_true, Nat.reduceAdd, Nat.zero_add] at F
  go_upto_region 15 with fail
  have hce := HRC.out _ _ H (by repeat (first | (with_reducible exact List.mem_cons_self) | (with_reducible apply List.mem_cons_of_mem)))
  (try dsimp only at hce)
  obtain ⟨d0, d1, d2, z0, z1, z2⟩ := hce
  have hl3 : vs.length + 1 ≤ maxLen := by unfold maxLen; omega
  go_region_law (first | (go_simp; go_at_call 71; refine (bytesClone_hp LA lc ls _ (hrl.grow (Hp.b (by repeat (first | (with_reducible exact H) | (with_reducible apply Hp.alloc) | (with_reducible apply Hp.set) | (with_reducible apply Hp.drew) | (with_reducible apply Hp.drewN) | (with_reducible apply Hp.bytesW) | (with_reducible exact Upd.here) | (with_reducible exact Upd.hereR) | (with_reducible apply Upd.there) | (with_reducible apply Sz.alloc) | (with_reducible apply Sz.set) | (with_reducible apply Sz.drew) | (with_reducible apply Sz.drewN) | (with_reducible apply Sz.bytesW) | (with_reducible assumption) | (with_reducible exact Sz.base _))))) hlb).mono ?_; rintro e w6 ⟨dA, dC, rfl, q6⟩; replace H := Hp.call (by repeat (first | (with_reducible exact H) | (with_reducible apply Hp.alloc) | (with_reducible apply Hp.set) | (with_reducible apply Hp.drew) | (with_reducible apply Hp.drewN) | (with_reducible apply Hp.bytesW) | (with_reducible exact Upd.here) | (with_reducible exact Upd.hereR) | (with_reducible apply Upd.there) | (with_reducible apply Sz.alloc) | (with_reducible apply Sz.set) | (with_reducible apply Sz.drew) | (with_reducible apply Sz.drewN) | (with_reducible apply Sz.bytesW) | (with_reducible assumption) | (with_reducible exact Sz.base _))) q6; (try simp only [List.set_cons_zero, List.set_cons_succ, List.cons_append, List.nil_append] at H); clear q6 F d0 d1 d2 z0 z1 z2; have F := H.facts; simp only [Facts, NeF, box, row, reg, cellsF, rByte, ne_eq, true_and, and_true, Nat.reduceAdd, Nat.zero_add] at F; have hce := HRC.out _ _ H (by repeat (first | (with_reducible exact List.mem_cons_self) | (with_reducible apply List.mem_cons_of_mem))); obtain ⟨d0, d1, d2, z0, z1, z2⟩ := hce; (try dsimp only at d0 d1 d2); have hg6 : g5 < w6.heap.size := ((H.ok (row 62 3 (.slice (some ⟨g5, 0, none⟩) us.length c3) us.length (vs3.flatMap encEntry)) (by repeat (first | (with_reducible exact List.mem_cons_self) | (with_reducible apply List.mem_cons_of_mem)))).lt g5 rfl).2; have hge : ¬ g5 = w6.heap.size ∧ ¬ w6.heap.size = g5 := by omega) | ((refine step_append_lies _ (by rfl) _ _ 60 (by rfl) w.heap.size 71 j0 _ 4 _ Tryd.underlying60 hj0 hy0 hy1 hy2 (by rfl) (by decide) (.slice (some ⟨gv, 0, none⟩) (vs.length) vc) (vs.length) _ (by rfl) (Hp.rowM (by repeat (first | (with_reducible exact H) | (with_reducible apply Hp.alloc) | (with_reducible apply Hp.set) | (with_reducible apply Hp.drew) | (with_reducible apply Hp.drewN) | (with_reducible apply Hp.bytesW) | (with_reducible exact Upd.here) | (with_reducible exact Upd.hereR) | (with_reducible apply Upd.there) | (with_reducible apply Sz.alloc) | (with_reducible apply Sz.set) | (with_reducible apply Sz.drew) | (with_reducible apply Sz.drewN) | (with_reducible apply Sz.bytesW) | (with_reducible assumption) | (with_reducible exact Sz.base _))) (by repeat (first | (with_reducible exact List.mem_cons_self) | (with_reducible apply List.mem_cons_of_mem)))) ⟨w6.heap.size, 0, none⟩ 1 1 (encVer (⟨ls, dA, dC, now, false, false⟩ : Ver)) (by rfl) (by rfl) (Hp.news (by repeat (first | (with_reducible exact H) | (with_reducible apply Hp.alloc) | (with_reducible apply Hp.set) | (with_reducible apply Hp.drew) | (with_reducible apply Hp.drewN) | (with_reducible apply Hp.bytesW) | (with_reducible exact Upd.here) | (with_reducible exact Upd.hereR) | (with_reducible apply Upd.there) | (with_reducible apply Sz.alloc) | (with_reducible apply Sz.set) | (with_reducible apply Sz.drew) | (with_reducible apply Sz.drewN) | (with_reducible apply Sz.bytesW) | (with_reducible assumption) | (with_reducible exact Sz.base _))) 0 (by rfl)) (oneVer (⟨ls, dA, dC, now, false, false⟩ : Ver)) (by decide) hl3 (by omega) (Hp.b (by repeat (first | (with_reducible exact H) | (with_reducible apply Hp.alloc) | (with_reducible apply Hp.set) | (with_reducible apply Hp.drew) | (with_reducible apply Hp.drewN) | (with_reducible apply Hp.bytesW) | (with_reducible exact Upd.here) | (with_reducible exact Upd.hereR) | (with_reducible apply Upd.there) | (with_reducible apply Sz.alloc) | (with_reducible apply Sz.set) | (with_reducible apply Sz.drew) | (with_reducible apply Sz.drewN) | (with_reducible apply Sz.bytesW) | (with_reducible assumption) | (with_reducible exact Sz.base _)))).size _ rfl ?_; intro g cap wa hown hgrow hat hlt1; have H5 := Hp.appM (by repeat (first | (with_reducible exact H) | (with_reducible apply Hp.alloc) | (with_reducible apply Hp.set) | (with_reducible apply Hp.drew) | (with_reducible apply Hp.drewN) | (with_reducible apply Hp.bytesW) | (with_reducible exact Upd.here) | (with_reducible exact Upd.hereR) | (with_reducible apply Upd.there) | (with_reducible apply Sz.alloc) | (with_reducible apply Sz.set) | (with_reducible apply Sz.drew) | (with_reducible apply Sz.drewN) | (with_reducible apply Sz.bytesW) | (with_reducible assumption) | (with_reducible exact Sz.base _))) (by repeat (first | (with_reducible exact Rep.here) | (with_reducible apply Rep.there))) hown hgrow hat rfl hlt1; (try simp only [List.set_cons_zero, List.set_cons_succ, List.cons_append, List.nil_append] at H5); have FA := H5.facts; simp only [Facts, NeF, box, row, reg, cellsF, rByte, ne_eq, true_and, and_true, Nat.reduceAdd, Nat.zero_add] at FA); have hcf := HRC.out _ _ H5 (by repeat (first | (with_reducible exact List.mem_cons_self) | (with_reducible apply List.mem_cons_of_mem)))))
  all_goals
    obtain ⟨w9, hw9⟩ : ∃ w9, w9 = wa.setCell ⟨g5, i * 3 + 2, none⟩ (.slice (some ⟨g, 0, none⟩) (vs.length + 1) cap) := ⟨_, rfl⟩
    have HS1 : Hid ((vs3.flatMap encEntry).set (i * 3 + 2) (.slice (some ⟨g, 0, none⟩) (vs.length + 1) cap) = (vs3.set i (⟨path, first, vs ++ [(⟨ls, dA, dC, now, false, false⟩ : Ver)], some ⟨g, 0, none⟩, cap⟩ : Entry)).flatMap encEntry) := by
      show _ = _
      rw [flat_set1 (v := (⟨path, first, vs ++ [(⟨ls, dA, dC, now, false, false⟩ : Ver)], some ⟨g, 0, none⟩, cap⟩ : Entry)) encEntry_len hi3 (t := 2) rfl (by decide) (by rw [HE3.out]; simp [encEntry])]
    have H6 : Hp w w9 ([row 71 4 (.slice (some ⟨g, 0, none⟩) (vs.length + 1) cap) (vs.length + 1) (vs.flatMap encVer ++ encVer (⟨ls, dA, dC, now, false, false⟩ : Ver)), row 62 3 (.slice (some ⟨g5, 0, none⟩) us.length c3) us.length ((vs3.set i (⟨path, first, vs ++ [(⟨ls, dA, dC, now, false, false⟩ : Ver)], some ⟨g, 0, none⟩, cap⟩ : Entry)).flatMap encEntry), rByte dA dC ls, box w3.heap.size 26 [.slice (some ⟨g5, 0, none⟩) us.length c3], box (w.heap.size + 1) 26 [.slice none 0 0], box w.heap.size 26 [.slice (some ⟨b, off, none⟩) us.length c]] ++ (vs.flatMap verF ++ N)) := by
      rw [hw9, ← HS1.out]
      refine Hp.sel (by repeat (first | (with_reducible exact H5) | (with_reducible apply Hp.alloc) | (with_reducible apply Hp.set) | (with_reducible apply Hp.drew) | (with_reducible apply Hp.drewN) | (with_reducible apply Hp.bytesW) | (with_reducible exact Upd.here) | (with_reducible exact Upd.hereR) | (with_reducible apply Upd.there) | (with_reducible apply Sz.alloc) | (with_reducible apply Sz.set) | (with_reducible apply Sz.drew) | (with_reducible apply Sz.drewN) | (with_reducible apply Sz.bytesW) | (with_reducible assumption) | (with_reducible exact Sz.base _))) ?_
      simp only [List.cons_append, List.nil_append, List.set_cons_zero, List.set_cons_succ]
      (repeat (first | (with_reducible exact Sel.nil) | (with_reducible apply Sel.cons) | (with_reducible exact Del.here) | (with_reducible apply Del.there))); (try (refine Sel.tl ?_; (repeat (first | (with_reducible exact Tl.here) | (with_reducible apply Tl.there)))))
    have HCAP : Hid (vs.length + 1 ≤ cap) := (own_rdn hown).2.1
    rw [← hw9]
    clear hw9 H5 FA F H hcf hown hgrow hat hlt1 d0 d1 d2 z0 z1 z2 hg6 hge
    have H := H6; clear H6
    simp only [List.cons_append, List.nil_append] at H
    have F := H.facts; simp only [Facts, NeF, box, row, reg, cellsF, rByte, ne_eq, true_and, and_true, Nat.reduceAdd, Nat.zero_add] at F
    have hck := entCells (i := i) (e := (⟨path, first, vs ++ [(⟨ls, dA, dC, now, false, false⟩ : Ver)], some ⟨g, 0, none⟩, cap⟩ : Entry)) (H.rowM (t := 62) (k := 3) (v := .slice (some ⟨g5, 0, none⟩) us.length c3) (n := us.length) (xs := (vs3.set i (⟨path, first, vs ++ [(⟨ls, dA, dC, now, false, false⟩ : Ver)], some ⟨g, 0, none⟩, cap⟩ : Entry)).flatMap encEntry) (by repeat (first | (with_reducible exact List.mem_cons_self) | (with_reducible apply List.mem_cons_of_mem)))) (by rw [List.length_set, HL3.out]) (by rw [List.getElem?_set_self hi3])
    obtain ⟨f0, f1, f2, y0, y1, y2⟩ := hck
    (try dsimp only at f0 f1 f2)
    simp only [List.length_append, List.length_singleton, List.length_cons, List.length_nil, Nat.zero_add] at f2
    by_cases hl8n : vs.length < 8
    · have hl8 : ¬ (8 : Int) < (vs.length : Int) + 1 := by omega
      have HPL : Hid ((vs3.set i (⟨path, first, vs ++ [(⟨ls, dA, dC, now, false, false⟩ : Ver)], some ⟨g, 0, none⟩, cap⟩ : Entry)).map plE = (us.set i (pushE (newV ls now) us[i])).map plE) := by
        show _ = _
        rw [List.map_set, List.map_set, HP3.out]
        congr 1
        refine Eq.trans ?_ (pushE_pl (v := (⟨ls, dA, dC, now, false, false⟩ : Ver)) (v2 := newV ls now) (e := ⟨path, first, vs, some ⟨gv, 0, none⟩, vc⟩) HPE.out rfl)
        rw [pushE]
        (try dsimp only)
        rw [if_pos hl8n]
        rfl
      have HFI : Hid ((pushE (newV ls now) us[i]).first = first) := by
        show _ = _
        have h8 := congrArg (fun l => l[i]?) HPL.out
        simp only [List.getElem?_map, List.getElem?_set_self hi, List.getElem?_set_self hi3, Option.map_some] at h8
        have h9 := Option.some.inj h8
        exact (congrArg Entry.first h9 : (plE (⟨path, first, vs ++ [(⟨ls, dA, dC, now, false, false⟩ : Ver)], some ⟨g, 0, none⟩, cap⟩ : Entry)).first = (plE (pushE (newV ls now) us[i])).first).symm
      have HL9 : Hid ((vs3.set i (⟨path, first, vs ++ [(⟨ls, dA, dC, now, false, false⟩ : Ver)], some ⟨g, 0, none⟩, cap⟩ : Entry)).length = us.length) := by show _ = _; rw [List.length_set, HL3.out]
      by_cases h60 : first ≤ 1000000
      · have HR : Hid ((us.set i (pushE (newV ls now) us[i]), (0 : Int), cur + 1) = (rs, rc, rm)) := by show _ = _; rw [← HD2.out, if_pos (by rw [HPO.out, HFI.out, decide_eq_true h60])]
        have h61 : ¬ (1000000 : Int) < first := by omega
        clear HPO
        go_upto_region 21 with fail
        repeat go_step
        obtain ⟨h9, h10⟩ := Prod.mk.inj HR.out
        obtain ⟨rfl, rfl⟩ := Prod.mk.inj h10
        have HPR : Hid ((vs3.set i (⟨path, first, vs ++ [(⟨ls, dA, dC, now, false, false⟩ : Ver)], some ⟨g, 0, none⟩, cap⟩ : Entry)).map plE = rs.map plE) := by show _ = _; rw [HPL.out, h9]
        have HLR : Hid (us.length = rs.length) := by show _ = _; rw [← h9, List.length_set]
        refine bodyPost_ret (v := .tuple #[.agg #[.slice (some ⟨g5, 0, none⟩) us.length c3], .int .i64 0, .int .i64 (cur + 1)]) (by simp [results, Tryd.results42, go_sem, F] <;> omega) rfl ⟨some ⟨g5, 0, none⟩, c3, vs3.set i (⟨path, first, vs ++ [(⟨ls, dA, dC, now, false, false⟩ : Ver)], some ⟨g, 0, none⟩, cap⟩ : Entry), by rw [HLR.out], HPR.out, by rw [HL9.out, HLR.out], ?_⟩
        rw [← HLR.out]
        refine Hp.sel (HCL.out (⟨path, first, vs ++ [(⟨ls, dA, dC, now, false, false⟩ : Ver)], some ⟨g, 0, none⟩, cap⟩ : Entry) [box w3.heap.size 26 [.slice (some ⟨g5, 0, none⟩) us.length c3], box (w.heap.size + 1) 26 [.slice (some ⟨g5, 0, none⟩) us.length c3], box w.heap.size 26 [.slice (some ⟨b, off, none⟩) us.length c]] _ (closeA (Hp.into (by repeat (first | (with_reducible exact H) | (with_reducible apply Hp.alloc) | (with_reducible apply Hp.set) | (with_reducible apply Hp.drew) | (with_reducible apply Hp.drewN) | (with_reducible apply Hp.bytesW) | (with_reducible exact Upd.here) | (with_reducible exact Upd.hereR) | (with_reducible apply Upd.there) | (with_reducible apply Sz.alloc) | (with_reducible apply Sz.set) | (with_reducible apply Sz.drew) | (with_reducible apply Sz.drewN) | (with_reducible apply Sz.bytesW) | (with_reducible assumption) | (with_reducible exact Sz.base _))) fun H9 => ?_))) (Sel.cons Del.here Sel.nil)
        (try simp only [List.set_cons_zero, List.set_cons_succ, List.cons_append, List.nil_append] at H9)
        refine Hp.sel H9 ?_
        simp only [List.cons_append, List.nil_append, List.set_cons_zero, List.set_cons_succ]
        (repeat (first | (with_reducible exact Sel.nil) | (with_reducible apply Sel.cons) | (with_reducible exact Del.here) | (with_reducible apply Del.there))); (try (refine Sel.tl ?_; (repeat (first | (with_reducible exact Tl.here) | (with_reducible apply Tl.there)))))
      · exact absurd hfb.2 h60
    · have hl8 : (8 : Int) < (vs.length : Int) + 1 := by omega
      have hcap9 : vs.length + 1 ≤ cap := HCAP.out
      have hwf : IntKind.i64.wrap (first + 1) = first + 1 := by rw [IntKind.wrap_i64]; omega
      have HDR : Hid (vs.length = (vs.drop 1 ++ [(⟨ls, dA, dC, now, false, false⟩ : Ver)]).length) := by show _ = _; simp; omega
      have HV1 := Lib.hid hv1
      have HSE : Hid ((((vs3.set i (⟨path, first, vs ++ [(⟨ls, dA, dC, now, false, false⟩ : Ver)], some ⟨g, 0, none⟩, cap⟩ : Entry)).flatMap encEntry).set (i * 3 + 2) (.slice (some ⟨g, 4, none⟩) vs.length (cap - 1))).set (i * 3 + 1) (.int .i64 (first + 1)) = (vs3.set i (⟨path, first + 1, vs.drop 1 ++ [(⟨ls, dA, dC, now, false, false⟩ : Ver)], some ⟨g, 4, none⟩, cap - 1⟩ : Entry)).flatMap encEntry) := by
        show _ = _
        rw [flat_set1 (v := (⟨path, first, vs.drop 1 ++ [(⟨ls, dA, dC, now, false, false⟩ : Ver)], some ⟨g, 4, none⟩, cap - 1⟩ : Entry)) encEntry_len (by simpa using hi3) (t := 2) rfl (by decide) (by rw [List.getElem_set_self]; show [_, _, Value.slice _ vs.length _] = [_, _, Value.slice _ (vs.drop 1 ++ [(⟨ls, dA, dC, now, false, false⟩ : Ver)]).length _]; rw [← HDR.out]), flat_set1 (v := (⟨path, first + 1, vs.drop 1 ++ [(⟨ls, dA, dC, now, false, false⟩ : Ver)], some ⟨g, 4, none⟩, cap - 1⟩ : Entry)) encEntry_len (by simpa using hi3) (t := 1) rfl (by decide) (by rw [List.getElem_set_self]; rfl), List.set_set, List.set_set]
      have HPL : Hid ((vs3.set i (⟨path, first + 1, vs.drop 1 ++ [(⟨ls, dA, dC, now, false, false⟩ : Ver)], some ⟨g, 4, none⟩, cap - 1⟩ : Entry)).map plE = (us.set i (pushE (newV ls now) us[i])).map plE) := by
        show _ = _
        rw [List.map_set, List.map_set, HP3.out]
        congr 1
        refine Eq.trans ?_ (pushE_pl (v := (⟨ls, dA, dC, now, false, false⟩ : Ver)) (v2 := newV ls now) (e := ⟨path, first, vs, some ⟨gv, 0, none⟩, vc⟩) HPE.out rfl)
        rw [pushE]
        (try dsimp only)
        rw [if_neg hl8n]
        rfl
      have HFI : Hid ((pushE (newV ls now) us[i]).first = first + 1) := by
        show _ = _
        have h8 := congrArg (fun l => l[i]?) HPL.out
        simp only [List.getElem?_map, List.getElem?_set_self hi, List.getElem?_set_self hi3, Option.map_some] at h8
        have h9 := Option.some.inj h8
        exact (congrArg Entry.first h9 : (plE (⟨path, first + 1, vs.drop 1 ++ [(⟨ls, dA, dC, now, false, false⟩ : Ver)], some ⟨g, 4, none⟩, cap - 1⟩ : Entry)).first = (plE (pushE (newV ls now) us[i])).first).symm
      have HL9 : Hid ((vs3.set i (⟨path, first + 1, vs.drop 1 ++ [(⟨ls, dA, dC, now, false, false⟩ : Ver)], some ⟨g, 4, none⟩, cap - 1⟩ : Entry)).length = us.length) := by show _ = _; rw [List.length_set, HL3.out]
      by_cases h60 : first + 1 ≤ 1000000
      · have HR : Hid ((us.set i (pushE (newV ls now) us[i]), (0 : Int), cur + 1) = (rs, rc, rm)) := by show _ = _; rw [← HD2.out, if_pos (by rw [HPO.out, HFI.out, decide_eq_true h60])]
        have h61 : ¬ (1000000 : Int) < first + 1 := by omega
        clear HPO
        go_upto_region 21 with fail
        repeat go_step
        obtain ⟨h9, h10⟩ := Prod.mk.inj HR.out
        obtain ⟨rfl, rfl⟩ := Prod.mk.inj h10
        have HPR : Hid ((vs3.set i (⟨path, first + 1, vs.drop 1 ++ [(⟨ls, dA, dC, now, false, false⟩ : Ver)], some ⟨g, 4, none⟩, cap - 1⟩ : Entry)).map plE = rs.map plE) := by show _ = _; rw [HPL.out, h9]
        have HLR : Hid (us.length = rs.length) := by show _ = _; rw [← h9, List.length_set]
        refine bodyPost_ret (v := .tuple #[.agg #[.slice (some ⟨g5, 0, none⟩) us.length c3], .int .i64 0, .int .i64 (cur + 1)]) (by simp [results, Tryd.results42, go_sem, F] <;> omega) rfl ⟨some ⟨g5, 0, none⟩, c3, vs3.set i (⟨path, first + 1, vs.drop 1 ++ [(⟨ls, dA, dC, now, false, false⟩ : Ver)], some ⟨g, 4, none⟩, cap - 1⟩ : Entry), by rw [HLR.out], HPR.out, by rw [HL9.out, HLR.out], ?_⟩
        rw [← HLR.out]
        refine Hp.sel (HCL.out (⟨path, first + 1, vs.drop 1 ++ [(⟨ls, dA, dC, now, false, false⟩ : Ver)], some ⟨g, 4, none⟩, cap - 1⟩ : Entry) [box w3.heap.size 26 [.slice (some ⟨g5, 0, none⟩) us.length c3], box (w.heap.size + 1) 26 [.slice (some ⟨g5, 0, none⟩) us.length c3], box w.heap.size 26 [.slice (some ⟨b, off, none⟩) us.length c]] _ (closeB HV1.out HCAP.out HDR.out (Hp.into (by repeat (first | (with_reducible exact H) | (with_reducible apply Hp.alloc) | (with_reducible apply Hp.set) | (with_reducible apply Hp.drew) | (with_reducible apply Hp.drewN) | (with_reducible apply Hp.bytesW) | (with_reducible exact Upd.here) | (with_reducible exact Upd.hereR) | (with_reducible apply Upd.there) | (with_reducible apply Sz.alloc) | (with_reducible apply Sz.set) | (with_reducible apply Sz.drew) | (with_reducible apply Sz.drewN) | (with_reducible apply Sz.bytesW) | (with_reducible assumption) | (with_reducible exact Sz.base _))) fun H9 => ?_))) (Sel.cons Del.here Sel.nil)
        (try simp only [List.set_cons_zero, List.set_cons_succ, List.cons_append, List.nil_append] at H9)
        rw [← HSE.out]
        refine Hp.sel H9 ?_
        simp only [List.cons_append, List.nil_append, List.set_cons_zero, List.set_cons_succ]
        (repeat (first | (with_reducible exact Sel.nil) | (with_reducible apply Sel.cons) | (with_reducible exact Del.here) | (with_reducible apply Del.there))); (try (refine Sel.tl ?_; (repeat (first | (with_reducible exact Tl.here) | (with_reducible apply Tl.there)))))
      · have HR : Hid ((us, (6 : Int), (0 : Int)) = (rs, rc, rm)) := by show _ = _; rw [← HD2.out, if_neg (by rw [HPO.out, HFI.out, decide_eq_false h60]; decide)]
        have h61 : (1000000 : Int) < first + 1 := by omega
        clear HPO
        go_wp2_with (first | (go_at_call 41; refine (cloneStore_hp _ us.length c us _ (hr.grow (Hp.b (by repeat (first | (with_reducible exact H) | (with_reducible apply Hp.alloc) | (with_reducible apply Hp.set) | (with_reducible apply Hp.drew) | (with_reducible apply Hp.drewN) | (with_reducible apply Hp.bytesW) | (with_reducible exact Upd.here) | (with_reducible exact Upd.hereR) | (with_reducible apply Upd.there) | (with_reducible apply Sz.alloc) | (with_reducible apply Sz.set) | (with_reducible apply Sz.drew) | (with_reducible apply Sz.drewN) | (with_reducible apply Sz.bytesW) | (with_reducible assumption) | (with_reducible exact Sz.base _))))) rfl hb20 (fun u hu => (hd u hu).step (Hp.b (by repeat (first | (with_reducible exact H) | (with_reducible apply Hp.alloc) | (with_reducible apply Hp.set) | (with_reducible apply Hp.drew) | (with_reducible apply Hp.drewN) | (with_reducible apply Hp.bytesW) | (with_reducible exact Upd.here) | (with_reducible exact Upd.hereR) | (with_reducible apply Upd.there) | (with_reducible apply Sz.alloc) | (with_reducible apply Sz.set) | (with_reducible apply Sz.drew) | (with_reducible apply Sz.drewN) | (with_reducible apply Sz.bytesW) | (with_reducible assumption) | (with_reducible exact Sz.base _))))) hvl hdl).mono ?_; rintro e w7 ⟨A7, c7, vs7, rfl, hp7, hl7, q7⟩; replace H := Hp.call (by repeat (first | (with_reducible exact H) | (with_reducible apply Hp.alloc) | (with_reducible apply Hp.set) | (with_reducible apply Hp.drew) | (with_reducible apply Hp.drewN) | (with_reducible apply Hp.bytesW) | (with_reducible exact Upd.here) | (with_reducible exact Upd.hereR) | (with_reducible apply Upd.there) | (with_reducible apply Sz.alloc) | (with_reducible apply Sz.set) | (with_reducible apply Sz.drew) | (with_reducible apply Sz.drewN) | (with_reducible apply Sz.bytesW) | (with_reducible assumption) | (with_reducible exact Sz.base _))) q7; (try simp only [List.set_cons_zero, List.set_cons_succ, List.cons_append, List.nil_append] at H); clear q7; (try clear F); have F := H.facts; simp only [Facts, NeF, box, row, reg, cellsF, rByte, ne_eq, true_and, and_true, Nat.reduceAdd, Nat.zero_add] at F; have HP7 := Lib.hid hp7; have HL7 := Lib.hid hl7; clear hp7 hl7))
        obtain ⟨rfl, h9⟩ := Prod.mk.inj HR.out
        obtain ⟨rfl, rfl⟩ := Prod.mk.inj h9
        refine bodyPost_ret (v := .tuple #[.agg #[.slice A7 us.length c7], .int .i64 6, .int .i64 0]) (by simp [results, Tryd.results42, go_sem, F] <;> omega) rfl ⟨A7, c7, vs7, rfl, HP7.out, HL7.out, Hp.toX (by refine Hp.sel (by repeat (first | (with_reducible exact H) | (with_reducible apply Hp.alloc) | (with_reducible apply Hp.set) | (with_reducible apply Hp.drew) | (with_reducible apply Hp.drewN) | (with_reducible apply Hp.bytesW) | (with_reducible exact Upd.here) | (with_reducible exact Upd.hereR) | (with_reducible apply Upd.there) | (with_reducible apply Sz.alloc) | (with_reducible apply Sz.set) | (with_reducible apply Sz.drew) | (with_reducible apply Sz.drewN) | (with_reducible apply Sz.bytesW) | (with_reducible assumption) | (with_reducible exact Sz.base _))) ?_; (try simp only [List.set_cons_zero, List.set_cons_succ]); exact (by repeat (first | (with_reducible exact Sel.nil) | (with_reducible apply Sel.cons) | (with_reducible exact Del.here) | (with_reducible apply Del.there))))⟩
end Go.Proofs.YtklmcbabpncfmaaDoor

/- FnVersions: the walk (under way). No condition. -/
import Derived.Test.YtklmcbabpncfmaaDoorM8
import Derived.Test.YtklmcbabpncfmaaDoorM5
import Derived.Test.YtklmcbabpncfmaaDoorM11
import Derived.Deep.DeepCutAuto
import Derived.Deep.RegionLaw
namespace Go.Proofs.YtklmcbabpncfmaaDoor
open Go.RowKit
set_option linter.unusedVariables false
set_option linter.unusedSimpArgs false
theorem getKv_at (A : Option Addr) (n c : Nat) (es : List Entry) (s : ByteArray) (ver : Int) (d : List UInt8) (cd nm : Int) (w : World) (hd : getF es s ver = ⟨d, cd, nm⟩) (hr : Rd w w.heap.size 3 A n c (es.flatMap encEntry)) (hn : es.length = n) (hsz : ∀ u ∈ es, u.path.size ≤ maxLen) (hdd : ∀ u ∈ es, DE 0 w u) (hml : mlOk w) :
    Calls Tryd.prog 11 #[.agg #[.slice A n c], .string s, .int .i64 ver] w fun e w' => ∃ A' c', e = .returned (.tuple #[.slice A' d.length c', .int .i64 cd, .int .i64 nm]) ∧ Hp w w' [rByte A' c' d] := implGetKv_hp A n c es s ver ⟨d, cd, nm⟩ w hd hr hn hsz hdd hml
set_option maxHeartbeats 32000000 in
set_option maxRecDepth 10000 in
theorem lawVersions (A : Option Addr) (n c : Nat) (bs : List UInt8) (w : World) (hr : Rd w w.heap.size 1 A n c (bs.flatMap encByte)) (hn : bs.length = n) (hml : mlOk w) :
    Calls Tryd.prog 3 #[.slice A n c] w fun e w' => e = .returned (.bool true) ∧ Below w.heap.size w w' := by
  have H := Hp.nil w
  have hnm : n ≤ maxLen := Nat.le_trans hr.2.1 hr.2.2.1
  by_cases hbig : 1048576 < n
  · go_enter Tryd.func3, Tryd.ntmps3
    go_wp2_with fail
    refine (bigK_any A n c _ hnm).mono ?_
    rintro e w0 ⟨rfl, rfl⟩
    rw [decide_eq_true hbig]
    go_wp2_with fail
    go_ret
    exact ⟨rfl, Hp.b (by repeat (first | (with_reducible exact H) | (with_reducible apply Hp.alloc) | (with_reducible apply Hp.set) | (with_reducible apply Hp.drew) | (with_reducible apply Hp.drewN) | (with_reducible apply Hp.bytesW) | (with_reducible exact Upd.here) | (with_reducible exact Upd.hereR) | (with_reducible apply Upd.there) | (with_reducible apply Sz.alloc) | (with_reducible apply Sz.set) | (with_reducible apply Sz.drew) | (with_reducible apply Sz.drewN) | (with_reducible apply Sz.bytesW) | (with_reducible assumption) | (with_reducible exact Sz.base _)))⟩
  go_enter Tryd.func3, Tryd.ntmps3
  go_wp2_with fail
  refine (bigK_any A n c _ hnm).mono ?_
  rintro e w0 ⟨rfl, rfl⟩
  rw [decide_eq_false hbig]
  go_wp2_with fail
  refine (DrawPutKv_hp A n c bs _ (hr.grow (Hp.b (by repeat (first | (with_reducible exact H) | (with_reducible apply Hp.alloc) | (with_reducible apply Hp.set) | (with_reducible apply Hp.drew) | (with_reducible apply Hp.drewN) | (with_reducible apply Hp.bytesW) | (with_reducible exact Upd.here) | (with_reducible exact Upd.hereR) | (with_reducible apply Upd.there) | (with_reducible apply Sz.alloc) | (with_reducible apply Sz.set) | (with_reducible apply Sz.drew) | (with_reducible apply Sz.drewN) | (with_reducible apply Sz.bytesW) | (with_reducible assumption) | (with_reducible exact Sz.base _))))) hn).mono ?_
  rintro e w1 ⟨A1, c1, us, s, eA, eC, ds, cas, now, rfl, hS, hs9, hd9, h1⟩
  replace H := Hp.call (by repeat (first | (with_reducible exact H) | (with_reducible apply Hp.alloc) | (with_reducible apply Hp.set) | (with_reducible apply Hp.drew) | (with_reducible apply Hp.drewN) | (with_reducible apply Hp.bytesW) | (with_reducible exact Upd.here) | (with_reducible exact Upd.hereR) | (with_reducible apply Upd.there) | (with_reducible apply Sz.alloc) | (with_reducible apply Sz.set) | (with_reducible apply Sz.drew) | (with_reducible apply Sz.drewN) | (with_reducible apply Sz.bytesW) | (with_reducible assumption) | (with_reducible exact Sz.base _))) h1; (try simp only [List.set_cons_zero, List.set_cons_succ, List.cons_append, List.nil_append] at H); clear h1; (try clear F); have F := H.facts; simp only [Facts, NeF, box, row, reg, cellsF, rByte, ne_eq, true_and, and_true, Nat.reduceAdd, Nat.zero_add] at F
  have hf0 := fit_d hS
  have HF0 := Lib.hid hf0
  have hsm : s.size ≤ maxLen := by unfold maxLen; omega
  have hd20 : ds.length ≤ 1048576 := by omega
  clear hS hs9 hbig
  obtain ⟨rs, rc, rm, hrs⟩ : ∃ rs rc rm, putK us s ds cas now = (rs, rc, rm) := ⟨_, _, _, rfl⟩
  have HRS := Lib.hid hrs
  go_wp2_with fail
  refine call_at (w0 := w) (by repeat (first | (with_reducible exact H) | (with_reducible apply Hp.alloc) | (with_reducible apply Hp.set) | (with_reducible apply Hp.drew) | (with_reducible apply Hp.drewN) | (with_reducible apply Hp.bytesW) | (with_reducible exact Upd.here) | (with_reducible exact Upd.hereR) | (with_reducible apply Upd.there) | (with_reducible apply Sz.alloc) | (with_reducible apply Sz.set) | (with_reducible apply Sz.drew) | (with_reducible apply Sz.drewN) | (with_reducible apply Sz.bytesW) | (with_reducible assumption) | (with_reducible exact Sz.base _))) fun H7 => ?_
  (try simp only [List.set_cons_zero, List.set_cons_succ, List.cons_append, List.nil_append] at H7)
  refine (specPutKv_pl A1 us.length c1 us s eA ds.length eC ds cas now rs rc rm _ (by rw [hrs]; exact ⟨rfl, rfl⟩) (stoE_rd H7 (A := A1) (c := c1) (n := us.length) (es := us) (by repeat (first | (with_reducible exact List.mem_cons_self) | (with_reducible apply List.mem_cons_of_mem)))).1 rfl hf0.2.2.2 hf0.1 (stoE_rd H7 (A := A1) (c := c1) (n := us.length) (es := us) (by repeat (first | (with_reducible exact List.mem_cons_self) | (with_reducible apply List.mem_cons_of_mem)))).2 hf0.2.1 hf0.2.2.1 (Hp.rdM H7 (show rByte eA eC ds ∈ _ from (by repeat (first | (with_reducible exact List.mem_cons_self) | (with_reducible apply List.mem_cons_of_mem))))) rfl hd20 hsm).mono ?_
  rintro e w2 ⟨A2, c2, vs2, rfl, hp2, hl2, h2⟩
  clear H F
  have H := Hp.call H7 h2
  clear h2 hp2 hl2 H7 hrs hf0
  (try simp only [List.set_cons_zero, List.set_cons_succ, List.cons_append, List.nil_append] at H)
  have F := H.facts; simp only [Facts, NeF, box, row, reg, cellsF, rByte, ne_eq, true_and, and_true, Nat.reduceAdd, Nat.zero_add] at F
  go_upto_region 5 with fail
  go_cut [11, 12, 13] (fun s11 s12 s13 wc => ∃ (g3 : Nat) (B : Option Addr) (d : Nat) (vrs : List Entry), s11 = .pointer (some ⟨g3, 0, none⟩) ∧ s12 = .int .i64 rc ∧ s13 = .int .i64 rm ∧ Hid (vrs.map plE = rs.map plE ∧ vrs.length = rs.length) ∧ Hp w wc [box g3 26 [.slice B rs.length d], stoX B d rs.length vrs, rByte eA eC ds])
  case first =>
    go_region_law (first | (go_simp; go_at_call 10; refine (cpBytes_hp eA eC ds _ (Hp.rdM (by repeat (first | (with_reducible exact H) | (with_reducible apply Hp.alloc) | (with_reducible apply Hp.set) | (with_reducible apply Hp.drew) | (with_reducible apply Hp.drewN) | (with_reducible apply Hp.bytesW) | (with_reducible exact Upd.here) | (with_reducible exact Upd.hereR) | (with_reducible apply Upd.there) | (with_reducible apply Sz.alloc) | (with_reducible apply Sz.set) | (with_reducible apply Sz.drew) | (with_reducible apply Sz.drewN) | (with_reducible apply Sz.bytesW) | (with_reducible assumption) | (with_reducible exact Sz.base _))) (show rByte eA eC ds ∈ _ from (by repeat (first | (with_reducible exact List.mem_cons_self) | (with_reducible apply List.mem_cons_of_mem))))) (by omega)).mono ?_; rintro e w3 ⟨fA, fC, rfl, h3⟩; replace H := Hp.call (by repeat (first | (with_reducible exact H) | (with_reducible apply Hp.alloc) | (with_reducible apply Hp.set) | (with_reducible apply Hp.drew) | (with_reducible apply Hp.drewN) | (with_reducible apply Hp.bytesW) | (with_reducible exact Upd.here) | (with_reducible exact Upd.hereR) | (with_reducible apply Upd.there) | (with_reducible apply Sz.alloc) | (with_reducible apply Sz.set) | (with_reducible apply Sz.drew) | (with_reducible apply Sz.drewN) | (with_reducible apply Sz.bytesW) | (with_reducible assumption) | (with_reducible exact Sz.base _))) h3; (try simp only [List.set_cons_zero, List.set_cons_succ, List.cons_append, List.nil_append] at H); clear h3 F; have F := H.facts; simp only [Facts, NeF, box, row, reg, cellsF, rByte, ne_eq, true_and, and_true, Nat.reduceAdd, Nat.zero_add] at F) | (go_simp; go_at_call 9; refine call_at (w0 := w) (by repeat (first | (with_reducible exact H) | (with_reducible apply Hp.alloc) | (with_reducible apply Hp.set) | (with_reducible apply Hp.drew) | (with_reducible apply Hp.drewN) | (with_reducible apply Hp.bytesW) | (with_reducible exact Upd.here) | (with_reducible exact Upd.hereR) | (with_reducible apply Upd.there) | (with_reducible apply Sz.alloc) | (with_reducible apply Sz.set) | (with_reducible apply Sz.drew) | (with_reducible apply Sz.drewN) | (with_reducible apply Sz.bytesW) | (with_reducible assumption) | (with_reducible exact Sz.base _))) fun H7 => ?_; (try simp only [List.set_cons_zero, List.set_cons_succ, List.cons_append, List.nil_append] at H7); refine (implPutKv_pl A1 us.length c1 us s fA ds.length fC ds cas now rs rc rm _ (by rw [HRS.out]; exact ⟨rfl, rfl⟩) (stoE_rd H7 (A := A1) (c := c1) (n := us.length) (es := us) (by repeat (first | (with_reducible exact List.mem_cons_self) | (with_reducible apply List.mem_cons_of_mem)))).1 rfl HF0.out.2.2.2 HF0.out.1 (stoE_rd H7 (A := A1) (c := c1) (n := us.length) (es := us) (by repeat (first | (with_reducible exact List.mem_cons_self) | (with_reducible apply List.mem_cons_of_mem)))).2 HF0.out.2.1 HF0.out.2.2.1 (Hp.rdM H7 (show rByte fA fC ds ∈ _ from (by repeat (first | (with_reducible exact List.mem_cons_self) | (with_reducible apply List.mem_cons_of_mem))))) rfl hd20 hsm (hml.on H7.b)).mono ?_; rintro e w4 ⟨B, d, vrs, rfl, hp4, hl4, h4⟩; clear H F; have H := Hp.call H7 h4; have HP4 := Lib.hid hp4; have HL4 := Lib.hid hl4; clear h4 hp4 hl4 H7; (try simp only [List.set_cons_zero, List.set_cons_succ, List.cons_append, List.nil_append] at H); have F := H.facts; simp only [Facts, NeF, box, row, reg, cellsF, rByte, ne_eq, true_and, and_true, Nat.reduceAdd, Nat.zero_add] at F))
    all_goals
      go_wp2_with fail
      go_meet
      exact ⟨_, B, d, vrs, rfl, rfl, rfl, ⟨HP4.out, HL4.out⟩, (by refine Hp.sel (by repeat (first | (with_reducible exact H) | (with_reducible apply Hp.alloc) | (with_reducible apply Hp.set) | (with_reducible apply Hp.drew) | (with_reducible apply Hp.drewN) | (with_reducible apply Hp.bytesW) | (with_reducible exact Upd.here) | (with_reducible exact Upd.hereR) | (with_reducible apply Upd.there) | (with_reducible apply Sz.alloc) | (with_reducible apply Sz.set) | (with_reducible apply Sz.drew) | (with_reducible apply Sz.drewN) | (with_reducible apply Sz.bytesW) | (with_reducible assumption) | (with_reducible exact Sz.base _))) ?_; (try simp only [List.set_cons_zero, List.set_cons_succ]); exact (by repeat (first | (with_reducible exact Sel.nil) | (with_reducible apply Sel.cons) | (with_reducible exact Del.here) | (with_reducible apply Del.there))))⟩
  case rest =>
  clear H F
  obtain ⟨g3, B, d, vrs, rfl, rfl, rfl, HVR, H⟩ := hcut
  have F := H.facts; simp only [Facts, NeF, box, row, reg, cellsF, rByte, ne_eq, true_and, and_true, Nat.reduceAdd, Nat.zero_add] at F
  by_cases hrc : rc = 0
  · subst hrc
    have hV0 := put_done HRS.out
    have HIrs := Lib.hid hV0
    have HMrs := Lib.hid HVR.out.1
    have HNrs := Lib.hid HVR.out.2
    have HFrs := Lib.hid (fit_pl HVR.out.1 (fit_ok hV0.ok))
    have hV1 := ver_each (what := 0) hV0
    have hV2 := ver_each (what := 1) hV1
    have hV3 := ver_each (what := 2) hV1
    have hV4 := ver_each (what := 1) hV3
    obtain ⟨ts, hts⟩ : ∃ x, (eachK rs s [rm] 0).1 = x := ⟨_, rfl⟩
    rw [hts] at hV1 hV2 hV3 hV4
    obtain ⟨bk, hbk⟩ : ∃ x, (eachK ts s [rm] 1).1 = x := ⟨_, rfl⟩
    obtain ⟨dk, hdk⟩ : ∃ x, (eachK ts s [rm] 2).1 = x := ⟨_, rfl⟩
    rw [hbk] at hV2
    rw [hdk] at hV3 hV4
    obtain ⟨rk, hrk⟩ : ∃ x, (eachK dk s [rm] 1).1 = x := ⟨_, rfl⟩
    rw [hrk] at hV4
    have HIts := Lib.hid hV1
    have HIbk := Lib.hid hV2
    have HIdk := Lib.hid hV3
    have HIrk := Lib.hid hV4
    have HEts := Lib.hid hts
    have HEbk := Lib.hid hbk
    have HEdk := Lib.hid hdk
    have HErk := Lib.hid hrk
    clear hV0 hV1 hV2 hV3 hV4 hts hbk hdk hrk HRS HVR HF0
    go_wp2_with fail
    refine call_at (w0 := w) (by repeat (first | (with_reducible exact H) | (with_reducible apply Hp.alloc) | (with_reducible apply Hp.set) | (with_reducible apply Hp.drew) | (with_reducible apply Hp.drewN) | (with_reducible apply Hp.bytesW) | (with_reducible exact Upd.here) | (with_reducible exact Upd.hereR) | (with_reducible apply Upd.there) | (with_reducible apply Sz.alloc) | (with_reducible apply Sz.set) | (with_reducible apply Sz.drew) | (with_reducible apply Sz.drewN) | (with_reducible apply Sz.bytesW) | (with_reducible assumption) | (with_reducible exact Sz.base _))) fun H7 => ?_
    (try simp only [List.set_cons_zero, List.set_cons_succ, List.cons_append, List.nil_append] at H7)
    clear H F
    have H := H7
    clear H7
    have F := H.facts; simp only [Facts, NeF, box, row, reg, cellsF, rByte, ne_eq, true_and, and_true, Nat.reduceAdd, Nat.zero_add] at F
    refine (getKv_at B rs.length d vrs s 0 ds 0 rm _ ((getF_pl s 0 HMrs.out).trans ((ver_get HIrs.out (Or.inl rfl)).trans (by rfl))) (stoX_rd H (A := B) (c := d) (n := rs.length) (es := vrs) (by repeat (first | (with_reducible exact List.mem_cons_self) | (with_reducible apply List.mem_cons_of_mem)))).1 HNrs.out HFrs.out.1 (stoX_rd H (A := B) (c := d) (n := rs.length) (es := vrs) (by repeat (first | (with_reducible exact List.mem_cons_self) | (with_reducible apply List.mem_cons_of_mem)))).2 (hml.on H.b)).mono ?_
    rintro e w5 ⟨Ga, ga, rfl, h5⟩
    replace H := Hp.call (by repeat (first | (with_reducible exact H) | (with_reducible apply Hp.alloc) | (with_reducible apply Hp.set) | (with_reducible apply Hp.drew) | (with_reducible apply Hp.drewN) | (with_reducible apply Hp.bytesW) | (with_reducible exact Upd.here) | (with_reducible exact Upd.hereR) | (with_reducible apply Upd.there) | (with_reducible apply Sz.alloc) | (with_reducible apply Sz.set) | (with_reducible apply Sz.drew) | (with_reducible apply Sz.drewN) | (with_reducible apply Sz.bytesW) | (with_reducible assumption) | (with_reducible exact Sz.base _))) h5; (try simp only [List.set_cons_zero, List.set_cons_succ, List.cons_append, List.nil_append] at H); clear h5 F
    have F := H.facts; simp only [Facts, NeF, box, row, reg, cellsF, rByte, ne_eq, true_and, and_true, Nat.reduceAdd, Nat.zero_add] at F
    go_wp2_with fail
    refine call_at (w0 := w) (by repeat (first | (with_reducible exact H) | (with_reducible apply Hp.alloc) | (with_reducible apply Hp.set) | (with_reducible apply Hp.drew) | (with_reducible apply Hp.drewN) | (with_reducible apply Hp.bytesW) | (with_reducible exact Upd.here) | (with_reducible exact Upd.hereR) | (with_reducible apply Upd.there) | (with_reducible apply Sz.alloc) | (with_reducible apply Sz.set) | (with_reducible apply Sz.drew) | (with_reducible apply Sz.drewN) | (with_reducible apply Sz.bytesW) | (with_reducible assumption) | (with_reducible exact Sz.base _))) fun H7 => ?_
    (try simp only [List.set_cons_zero, List.set_cons_succ, List.cons_append, List.nil_append] at H7)
    clear H F
    have H := H7
    clear H7
    have F := H.facts; simp only [Facts, NeF, box, row, reg, cellsF, rByte, ne_eq, true_and, and_true, Nat.reduceAdd, Nat.zero_add] at F
    refine (getKv_at B rs.length d vrs s rm ds 0 rm _ ((getF_pl s rm HMrs.out).trans ((ver_get HIrs.out (Or.inr rfl)).trans (by rfl))) (stoX_rd H (A := B) (c := d) (n := rs.length) (es := vrs) (by repeat (first | (with_reducible exact List.mem_cons_self) | (with_reducible apply List.mem_cons_of_mem)))).1 HNrs.out HFrs.out.1 (stoX_rd H (A := B) (c := d) (n := rs.length) (es := vrs) (by repeat (first | (with_reducible exact List.mem_cons_self) | (with_reducible apply List.mem_cons_of_mem)))).2 (hml.on H.b)).mono ?_
    rintro e w5 ⟨Gb, gb, rfl, h5⟩
    replace H := Hp.call (by repeat (first | (with_reducible exact H) | (with_reducible apply Hp.alloc) | (with_reducible apply Hp.set) | (with_reducible apply Hp.drew) | (with_reducible apply Hp.drewN) | (with_reducible apply Hp.bytesW) | (with_reducible exact Upd.here) | (with_reducible exact Upd.hereR) | (with_reducible apply Upd.there) | (with_reducible apply Sz.alloc) | (with_reducible apply Sz.set) | (with_reducible apply Sz.drew) | (with_reducible apply Sz.drewN) | (with_reducible apply Sz.bytesW) | (with_reducible assumption) | (with_reducible exact Sz.base _))) h5; (try simp only [List.set_cons_zero, List.set_cons_succ, List.cons_append, List.nil_append] at H); clear h5 F
    have F := H.facts; simp only [Facts, NeF, box, row, reg, cellsF, rByte, ne_eq, true_and, and_true, Nat.reduceAdd, Nat.zero_add] at F
    go_upto_region 13 with (go_at_call 12; refine (sameBytes_any _ _ _ _ _ ds _ (Hp.rdM (by repeat (first | (with_reducible exact H) | (with_reducible apply Hp.alloc) | (with_reducible apply Hp.set) | (with_reducible apply Hp.drew) | (with_reducible apply Hp.drewN) | (with_reducible apply Hp.bytesW) | (with_reducible exact Upd.here) | (with_reducible exact Upd.hereR) | (with_reducible apply Upd.there) | (with_reducible apply Sz.alloc) | (with_reducible apply Sz.set) | (with_reducible apply Sz.drew) | (with_reducible apply Sz.drewN) | (with_reducible apply Sz.bytesW) | (with_reducible assumption) | (with_reducible exact Sz.base _))) (by repeat (first | (with_reducible exact List.mem_cons_self) | (with_reducible apply List.mem_cons_of_mem)))) (Hp.rdM (by repeat (first | (with_reducible exact H) | (with_reducible apply Hp.alloc) | (with_reducible apply Hp.set) | (with_reducible apply Hp.drew) | (with_reducible apply Hp.drewN) | (with_reducible apply Hp.bytesW) | (with_reducible exact Upd.here) | (with_reducible exact Upd.hereR) | (with_reducible apply Upd.there) | (with_reducible apply Sz.alloc) | (with_reducible apply Sz.set) | (with_reducible apply Sz.drew) | (with_reducible apply Sz.drewN) | (with_reducible apply Sz.bytesW) | (with_reducible assumption) | (with_reducible exact Sz.base _))) (by repeat (first | (with_reducible exact List.mem_cons_self) | (with_reducible apply List.mem_cons_of_mem)))) rfl).mono ?_; rintro e w6 ⟨rfl, e6⟩; replace H := Hp.step (by repeat (first | (with_reducible exact H) | (with_reducible apply Hp.alloc) | (with_reducible apply Hp.set) | (with_reducible apply Hp.drew) | (with_reducible apply Hp.drewN) | (with_reducible apply Hp.bytesW) | (with_reducible exact Upd.here) | (with_reducible exact Upd.hereR) | (with_reducible apply Upd.there) | (with_reducible apply Sz.alloc) | (with_reducible apply Sz.set) | (with_reducible apply Sz.drew) | (with_reducible apply Sz.drewN) | (with_reducible apply Sz.bytesW) | (with_reducible assumption) | (with_reducible exact Sz.base _))) e6; (try simp only [List.set_cons_zero, List.set_cons_succ, List.cons_append, List.nil_append] at H); clear e6 F; have F := H.facts; simp only [Facts, NeF, box, row, reg, cellsF, rByte, ne_eq, true_and, and_true, Nat.reduceAdd, Nat.zero_add] at F)
    go_wp2_with fail
    refine call_at (w0 := w) (by repeat (first | (with_reducible exact H) | (with_reducible apply Hp.alloc) | (with_reducible apply Hp.set) | (with_reducible apply Hp.drew) | (with_reducible apply Hp.drewN) | (with_reducible apply Hp.bytesW) | (with_reducible exact Upd.here) | (with_reducible exact Upd.hereR) | (with_reducible apply Upd.there) | (with_reducible apply Sz.alloc) | (with_reducible apply Sz.set) | (with_reducible apply Sz.drew) | (with_reducible apply Sz.drewN) | (with_reducible apply Sz.bytesW) | (with_reducible assumption) | (with_reducible exact Sz.base _))) fun H7 => ?_
    (try simp only [List.set_cons_zero, List.set_cons_succ, List.cons_append, List.nil_append] at H7)
    have H8 := Hp.boxRow H7 0 1 1 1 (by rfl) (by rfl) (Nat.le_refl _) (by unfold maxLen; omega)
    refine (implTakeKv_pl B rs.length d vrs s (some ⟨_, 0, none⟩) 1 1 [rm] ts (eachK rs s [rm] 0).2 _ (by rw [← HEts.out]; exact eachK_pl s [rm] 0 HMrs.out) (stoX_rd H7 (A := B) (c := d) (n := rs.length) (es := vrs) (by repeat (first | (with_reducible exact List.mem_cons_self) | (with_reducible apply List.mem_cons_of_mem)))).1 HNrs.out (by rw [← HNrs.out]; exact HFrs.out.2.2.2) HFrs.out.1 (stoX_rd H7 (A := B) (c := d) (n := rs.length) (es := vrs) (by repeat (first | (with_reducible exact List.mem_cons_self) | (with_reducible apply List.mem_cons_of_mem)))).2 HFrs.out.2.1 HFrs.out.2.2.1 (H8.rd 0 (by rfl)) rfl (hml.on H7.b)).mono ?_
    rintro e w5 ⟨B1, d1, vts, rfl, hp5, hl5, h5⟩
    clear H F H8
    have H := Hp.call H7 h5
    have HMts := Lib.hid hp5
    have HNts := Lib.hid hl5
    have HFts := Lib.hid (fit_pl hp5 (fit_ok HIts.out.ok))
    clear h5 hp5 hl5 H7
    (try simp only [List.set_cons_zero, List.set_cons_succ, List.cons_append, List.nil_append] at H)
    have F := H.facts; simp only [Facts, NeF, box, row, reg, cellsF, rByte, ne_eq, true_and, and_true, Nat.reduceAdd, Nat.zero_add] at F
    go_wp2_with fail
    refine call_at (w0 := w) (by repeat (first | (with_reducible exact H) | (with_reducible apply Hp.alloc) | (with_reducible apply Hp.set) | (with_reducible apply Hp.drew) | (with_reducible apply Hp.drewN) | (with_reducible apply Hp.bytesW) | (with_reducible exact Upd.here) | (with_reducible exact Upd.hereR) | (with_reducible apply Upd.there) | (with_reducible apply Sz.alloc) | (with_reducible apply Sz.set) | (with_reducible apply Sz.drew) | (with_reducible apply Sz.drewN) | (with_reducible apply Sz.bytesW) | (with_reducible assumption) | (with_reducible exact Sz.base _))) fun H7 => ?_
    (try simp only [List.set_cons_zero, List.set_cons_succ, List.cons_append, List.nil_append] at H7)
    clear H F
    have H := H7
    clear H7
    have F := H.facts; simp only [Facts, NeF, box, row, reg, cellsF, rByte, ne_eq, true_and, and_true, Nat.reduceAdd, Nat.zero_add] at F
    refine (getKv_at B1 ts.length d1 vts s rm [] 3 0 _ ((getF_pl s rm HMts.out).trans ((ver_get HIts.out (Or.inr rfl)).trans (by rfl))) (stoE_rd H (A := B1) (c := d1) (n := ts.length) (es := vts) (by repeat (first | (with_reducible exact List.mem_cons_self) | (with_reducible apply List.mem_cons_of_mem)))).1 HNts.out HFts.out.1 (stoE_rd H (A := B1) (c := d1) (n := ts.length) (es := vts) (by repeat (first | (with_reducible exact List.mem_cons_self) | (with_reducible apply List.mem_cons_of_mem)))).2 (hml.on H.b)).mono ?_
    rintro e w5 ⟨Gc, gc, rfl, h5⟩
    replace H := Hp.call (by repeat (first | (with_reducible exact H) | (with_reducible apply Hp.alloc) | (with_reducible apply Hp.set) | (with_reducible apply Hp.drew) | (with_reducible apply Hp.drewN) | (with_reducible apply Hp.bytesW) | (with_reducible exact Upd.here) | (with_reducible exact Upd.hereR) | (with_reducible apply Upd.there) | (with_reducible apply Sz.alloc) | (with_reducible apply Sz.set) | (with_reducible apply Sz.drew) | (with_reducible apply Sz.drewN) | (with_reducible apply Sz.bytesW) | (with_reducible assumption) | (with_reducible exact Sz.base _))) h5; (try simp only [List.set_cons_zero, List.set_cons_succ, List.cons_append, List.nil_append] at H); clear h5 F
    have F := H.facts; simp only [Facts, NeF, box, row, reg, cellsF, rByte, ne_eq, true_and, and_true, Nat.reduceAdd, Nat.zero_add] at F
    go_wp2_with fail
    refine call_at (w0 := w) (by repeat (first | (with_reducible exact H) | (with_reducible apply Hp.alloc) | (with_reducible apply Hp.set) | (with_reducible apply Hp.drew) | (with_reducible apply Hp.drewN) | (with_reducible apply Hp.bytesW) | (with_reducible exact Upd.here) | (with_reducible exact Upd.hereR) | (with_reducible apply Upd.there) | (with_reducible apply Sz.alloc) | (with_reducible apply Sz.set) | (with_reducible apply Sz.drew) | (with_reducible apply Sz.drewN) | (with_reducible apply Sz.bytesW) | (with_reducible assumption) | (with_reducible exact Sz.base _))) fun H7 => ?_
    (try simp only [List.set_cons_zero, List.set_cons_succ, List.cons_append, List.nil_append] at H7)
    have H8 := Hp.boxRow H7 0 1 1 1 (by rfl) (by rfl) (Nat.le_refl _) (by unfold maxLen; omega)
    refine (implBringKv_pl B1 ts.length d1 vts s (some ⟨_, 0, none⟩) 1 1 [rm] bk (eachK ts s [rm] 1).2 _ (by rw [← HEbk.out]; exact eachK_pl s [rm] 1 HMts.out) (stoE_rd H7 (A := B1) (c := d1) (n := ts.length) (es := vts) (by repeat (first | (with_reducible exact List.mem_cons_self) | (with_reducible apply List.mem_cons_of_mem)))).1 HNts.out (by rw [← HNts.out]; exact HFts.out.2.2.2) HFts.out.1 (stoE_rd H7 (A := B1) (c := d1) (n := ts.length) (es := vts) (by repeat (first | (with_reducible exact List.mem_cons_self) | (with_reducible apply List.mem_cons_of_mem)))).2 HFts.out.2.1 HFts.out.2.2.1 (H8.rd 0 (by rfl)) rfl (hml.on H7.b)).mono ?_
    rintro e w5 ⟨B2, d2, vbk, rfl, hp5, hl5, h5⟩
    clear H F H8
    have H := Hp.call H7 h5
    have HMbk := Lib.hid hp5
    have HNbk := Lib.hid hl5
    have HFbk := Lib.hid (fit_pl hp5 (fit_ok HIbk.out.ok))
    clear h5 hp5 hl5 H7
    (try simp only [List.set_cons_zero, List.set_cons_succ, List.cons_append, List.nil_append] at H)
    have F := H.facts; simp only [Facts, NeF, box, row, reg, cellsF, rByte, ne_eq, true_and, and_true, Nat.reduceAdd, Nat.zero_add] at F
    go_wp2_with fail
    refine call_at (w0 := w) (by repeat (first | (with_reducible exact H) | (with_reducible apply Hp.alloc) | (with_reducible apply Hp.set) | (with_reducible apply Hp.drew) | (with_reducible apply Hp.drewN) | (with_reducible apply Hp.bytesW) | (with_reducible exact Upd.here) | (with_reducible exact Upd.hereR) | (with_reducible apply Upd.there) | (with_reducible apply Sz.alloc) | (with_reducible apply Sz.set) | (with_reducible apply Sz.drew) | (with_reducible apply Sz.drewN) | (with_reducible apply Sz.bytesW) | (with_reducible assumption) | (with_reducible exact Sz.base _))) fun H7 => ?_
    (try simp only [List.set_cons_zero, List.set_cons_succ, List.cons_append, List.nil_append] at H7)
    clear H F
    have H := H7
    clear H7
    have F := H.facts; simp only [Facts, NeF, box, row, reg, cellsF, rByte, ne_eq, true_and, and_true, Nat.reduceAdd, Nat.zero_add] at F
    refine (getKv_at B2 bk.length d2 vbk s 0 ds 0 rm _ ((getF_pl s 0 HMbk.out).trans ((ver_get HIbk.out (Or.inl rfl)).trans (by rfl))) (stoE_rd H (A := B2) (c := d2) (n := bk.length) (es := vbk) (by repeat (first | (with_reducible exact List.mem_cons_self) | (with_reducible apply List.mem_cons_of_mem)))).1 HNbk.out HFbk.out.1 (stoE_rd H (A := B2) (c := d2) (n := bk.length) (es := vbk) (by repeat (first | (with_reducible exact List.mem_cons_self) | (with_reducible apply List.mem_cons_of_mem)))).2 (hml.on H.b)).mono ?_
    rintro e w5 ⟨Gd, gd, rfl, h5⟩
    replace H := Hp.call (by repeat (first | (with_reducible exact H) | (with_reducible apply Hp.alloc) | (with_reducible apply Hp.set) | (with_reducible apply Hp.drew) | (with_reducible apply Hp.drewN) | (with_reducible apply Hp.bytesW) | (with_reducible exact Upd.here) | (with_reducible exact Upd.hereR) | (with_reducible apply Upd.there) | (with_reducible apply Sz.alloc) | (with_reducible apply Sz.set) | (with_reducible apply Sz.drew) | (with_reducible apply Sz.drewN) | (with_reducible apply Sz.bytesW) | (with_reducible assumption) | (with_reducible exact Sz.base _))) h5; (try simp only [List.set_cons_zero, List.set_cons_succ, List.cons_append, List.nil_append] at H); clear h5 F
    have F := H.facts; simp only [Facts, NeF, box, row, reg, cellsF, rByte, ne_eq, true_and, and_true, Nat.reduceAdd, Nat.zero_add] at F
    go_wp2_with fail
    refine call_at (w0 := w) (by repeat (first | (with_reducible exact H) | (with_reducible apply Hp.alloc) | (with_reducible apply Hp.set) | (with_reducible apply Hp.drew) | (with_reducible apply Hp.drewN) | (with_reducible apply Hp.bytesW) | (with_reducible exact Upd.here) | (with_reducible exact Upd.hereR) | (with_reducible apply Upd.there) | (with_reducible apply Sz.alloc) | (with_reducible apply Sz.set) | (with_reducible apply Sz.drew) | (with_reducible apply Sz.drewN) | (with_reducible apply Sz.bytesW) | (with_reducible assumption) | (with_reducible exact Sz.base _))) fun H7 => ?_
    (try simp only [List.set_cons_zero, List.set_cons_succ, List.cons_append, List.nil_append] at H7)
    have H8 := Hp.boxRow H7 0 1 1 1 (by rfl) (by rfl) (Nat.le_refl _) (by unfold maxLen; omega)
    refine (implKillKv_pl B1 ts.length d1 vts s (some ⟨_, 0, none⟩) 1 1 [rm] dk (eachK ts s [rm] 2).2 _ (by rw [← HEdk.out]; exact eachK_pl s [rm] 2 HMts.out) (stoE_rd H7 (A := B1) (c := d1) (n := ts.length) (es := vts) (by repeat (first | (with_reducible exact List.mem_cons_self) | (with_reducible apply List.mem_cons_of_mem)))).1 HNts.out (by rw [← HNts.out]; exact HFts.out.2.2.2) HFts.out.1 (stoE_rd H7 (A := B1) (c := d1) (n := ts.length) (es := vts) (by repeat (first | (with_reducible exact List.mem_cons_self) | (with_reducible apply List.mem_cons_of_mem)))).2 HFts.out.2.1 HFts.out.2.2.1 (H8.rd 0 (by rfl)) rfl (hml.on H7.b)).mono ?_
    rintro e w5 ⟨B3, d3, vdk, rfl, hp5, hl5, h5⟩
    clear H F H8
    have H := Hp.call H7 h5
    have HMdk := Lib.hid hp5
    have HNdk := Lib.hid hl5
    have HFdk := Lib.hid (fit_pl hp5 (fit_ok HIdk.out.ok))
    clear h5 hp5 hl5 H7
    (try simp only [List.set_cons_zero, List.set_cons_succ, List.cons_append, List.nil_append] at H)
    have F := H.facts; simp only [Facts, NeF, box, row, reg, cellsF, rByte, ne_eq, true_and, and_true, Nat.reduceAdd, Nat.zero_add] at F
    go_wp2_with fail
    refine call_at (w0 := w) (by repeat (first | (with_reducible exact H) | (with_reducible apply Hp.alloc) | (with_reducible apply Hp.set) | (with_reducible apply Hp.drew) | (with_reducible apply Hp.drewN) | (with_reducible apply Hp.bytesW) | (with_reducible exact Upd.here) | (with_reducible exact Upd.hereR) | (with_reducible apply Upd.there) | (with_reducible apply Sz.alloc) | (with_reducible apply Sz.set) | (with_reducible apply Sz.drew) | (with_reducible apply Sz.drewN) | (with_reducible apply Sz.bytesW) | (with_reducible assumption) | (with_reducible exact Sz.base _))) fun H7 => ?_
    (try simp only [List.set_cons_zero, List.set_cons_succ, List.cons_append, List.nil_append] at H7)
    have H8 := Hp.boxRow H7 0 1 1 1 (by rfl) (by rfl) (Nat.le_refl _) (by unfold maxLen; omega)
    refine (implBringKv_pl B3 dk.length d3 vdk s (some ⟨_, 0, none⟩) 1 1 [rm] rk (eachK dk s [rm] 1).2 _ (by rw [← HErk.out]; exact eachK_pl s [rm] 1 HMdk.out) (stoE_rd H7 (A := B3) (c := d3) (n := dk.length) (es := vdk) (by repeat (first | (with_reducible exact List.mem_cons_self) | (with_reducible apply List.mem_cons_of_mem)))).1 HNdk.out (by rw [← HNdk.out]; exact HFdk.out.2.2.2) HFdk.out.1 (stoE_rd H7 (A := B3) (c := d3) (n := dk.length) (es := vdk) (by repeat (first | (with_reducible exact List.mem_cons_self) | (with_reducible apply List.mem_cons_of_mem)))).2 HFdk.out.2.1 HFdk.out.2.2.1 (H8.rd 0 (by rfl)) rfl (hml.on H7.b)).mono ?_
    rintro e w5 ⟨B4, d4, vrk, rfl, hp5, hl5, h5⟩
    clear H F H8
    have H := Hp.call H7 h5
    have HMrk := Lib.hid hp5
    have HNrk := Lib.hid hl5
    have HFrk := Lib.hid (fit_pl hp5 (fit_ok HIrk.out.ok))
    clear h5 hp5 hl5 H7
    (try simp only [List.set_cons_zero, List.set_cons_succ, List.cons_append, List.nil_append] at H)
    have F := H.facts; simp only [Facts, NeF, box, row, reg, cellsF, rByte, ne_eq, true_and, and_true, Nat.reduceAdd, Nat.zero_add] at F
    go_wp2_with fail
    refine call_at (w0 := w) (by repeat (first | (with_reducible exact H) | (with_reducible apply Hp.alloc) | (with_reducible apply Hp.set) | (with_reducible apply Hp.drew) | (with_reducible apply Hp.drewN) | (with_reducible apply Hp.bytesW) | (with_reducible exact Upd.here) | (with_reducible exact Upd.hereR) | (with_reducible apply Upd.there) | (with_reducible apply Sz.alloc) | (with_reducible apply Sz.set) | (with_reducible apply Sz.drew) | (with_reducible apply Sz.drewN) | (with_reducible apply Sz.bytesW) | (with_reducible assumption) | (with_reducible exact Sz.base _))) fun H7 => ?_
    (try simp only [List.set_cons_zero, List.set_cons_succ, List.cons_append, List.nil_append] at H7)
    clear H F
    have H := H7
    clear H7
    have F := H.facts; simp only [Facts, NeF, box, row, reg, cellsF, rByte, ne_eq, true_and, and_true, Nat.reduceAdd, Nat.zero_add] at F
    refine (getKv_at B4 rk.length d4 vrk s rm [] 4 0 _ ((getF_pl s rm HMrk.out).trans ((ver_get HIrk.out (Or.inr rfl)).trans (by rfl))) (stoE_rd H (A := B4) (c := d4) (n := rk.length) (es := vrk) (by repeat (first | (with_reducible exact List.mem_cons_self) | (with_reducible apply List.mem_cons_of_mem)))).1 HNrk.out HFrk.out.1 (stoE_rd H (A := B4) (c := d4) (n := rk.length) (es := vrk) (by repeat (first | (with_reducible exact List.mem_cons_self) | (with_reducible apply List.mem_cons_of_mem)))).2 (hml.on H.b)).mono ?_
    rintro e w5 ⟨Ge, ge, rfl, h5⟩
    replace H := Hp.call (by repeat (first | (with_reducible exact H) | (with_reducible apply Hp.alloc) | (with_reducible apply Hp.set) | (with_reducible apply Hp.drew) | (with_reducible apply Hp.drewN) | (with_reducible apply Hp.bytesW) | (with_reducible exact Upd.here) | (with_reducible exact Upd.hereR) | (with_reducible apply Upd.there) | (with_reducible apply Sz.alloc) | (with_reducible apply Sz.set) | (with_reducible apply Sz.drew) | (with_reducible apply Sz.drewN) | (with_reducible apply Sz.bytesW) | (with_reducible assumption) | (with_reducible exact Sz.base _))) h5; (try simp only [List.set_cons_zero, List.set_cons_succ, List.cons_append, List.nil_append] at H); clear h5 F
    have F := H.facts; simp only [Facts, NeF, box, row, reg, cellsF, rByte, ne_eq, true_and, and_true, Nat.reduceAdd, Nat.zero_add] at F
    go_wp2_with (go_at_call 12; refine (sameBytes_any _ _ _ _ _ ds _ (Hp.rdM (by repeat (first | (with_reducible exact H) | (with_reducible apply Hp.alloc) | (with_reducible apply Hp.set) | (with_reducible apply Hp.drew) | (with_reducible apply Hp.drewN) | (with_reducible apply Hp.bytesW) | (with_reducible exact Upd.here) | (with_reducible exact Upd.hereR) | (with_reducible apply Upd.there) | (with_reducible apply Sz.alloc) | (with_reducible apply Sz.set) | (with_reducible apply Sz.drew) | (with_reducible apply Sz.drewN) | (with_reducible apply Sz.bytesW) | (with_reducible assumption) | (with_reducible exact Sz.base _))) (by repeat (first | (with_reducible exact List.mem_cons_self) | (with_reducible apply List.mem_cons_of_mem)))) (Hp.rdM (by repeat (first | (with_reducible exact H) | (with_reducible apply Hp.alloc) | (with_reducible apply Hp.set) | (with_reducible apply Hp.drew) | (with_reducible apply Hp.drewN) | (with_reducible apply Hp.bytesW) | (with_reducible exact Upd.here) | (with_reducible exact Upd.hereR) | (with_reducible apply Upd.there) | (with_reducible apply Sz.alloc) | (with_reducible apply Sz.set) | (with_reducible apply Sz.drew) | (with_reducible apply Sz.drewN) | (with_reducible apply Sz.bytesW) | (with_reducible assumption) | (with_reducible exact Sz.base _))) (by repeat (first | (with_reducible exact List.mem_cons_self) | (with_reducible apply List.mem_cons_of_mem)))) rfl).mono ?_; rintro e w6 ⟨rfl, e6⟩; replace H := Hp.step (by repeat (first | (with_reducible exact H) | (with_reducible apply Hp.alloc) | (with_reducible apply Hp.set) | (with_reducible apply Hp.drew) | (with_reducible apply Hp.drewN) | (with_reducible apply Hp.bytesW) | (with_reducible exact Upd.here) | (with_reducible exact Upd.hereR) | (with_reducible apply Upd.there) | (with_reducible apply Sz.alloc) | (with_reducible apply Sz.set) | (with_reducible apply Sz.drew) | (with_reducible apply Sz.drewN) | (with_reducible apply Sz.bytesW) | (with_reducible assumption) | (with_reducible exact Sz.base _))) e6; (try simp only [List.set_cons_zero, List.set_cons_succ, List.cons_append, List.nil_append] at H); clear e6 F; have F := H.facts; simp only [Facts, NeF, box, row, reg, cellsF, rByte, ne_eq, true_and, and_true, Nat.reduceAdd, Nat.zero_add] at F)
    go_ret
    exact ⟨rfl, Hp.b (by repeat (first | (with_reducible exact H) | (with_reducible apply Hp.alloc) | (with_reducible apply Hp.set) | (with_reducible apply Hp.drew) | (with_reducible apply Hp.drewN) | (with_reducible apply Hp.bytesW) | (with_reducible exact Upd.here) | (with_reducible exact Upd.hereR) | (with_reducible apply Upd.there) | (with_reducible apply Sz.alloc) | (with_reducible apply Sz.set) | (with_reducible apply Sz.drew) | (with_reducible apply Sz.drewN) | (with_reducible apply Sz.bytesW) | (with_reducible assumption) | (with_reducible exact Sz.base _)))⟩
  · have hrc1 : (rc != 0) = true := by simp [hrc]
    go_wp2_with fail
    go_ret
    exact ⟨rfl, Hp.b (by repeat (first | (with_reducible exact H) | (with_reducible apply Hp.alloc) | (with_reducible apply Hp.set) | (with_reducible apply Hp.drew) | (with_reducible apply Hp.drewN) | (with_reducible apply Hp.bytesW) | (with_reducible exact Upd.here) | (with_reducible exact Upd.hereR) | (with_reducible apply Upd.there) | (with_reducible apply Sz.alloc) | (with_reducible apply Sz.set) | (with_reducible apply Sz.drew) | (with_reducible apply Sz.drewN) | (with_reducible apply Sz.bytesW) | (with_reducible assumption) | (with_reducible exact Sz.base _)))⟩
end Go.Proofs.YtklmcbabpncfmaaDoor

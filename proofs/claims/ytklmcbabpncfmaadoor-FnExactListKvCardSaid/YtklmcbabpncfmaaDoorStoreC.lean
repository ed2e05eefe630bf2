/- Stores: which are valid: the program's. No condition. -/
import Derived.Test.YtklmcbabpncfmaaDoorStoreA
import Derived.Test.YtklmcbabpncfmaaDoorStoreB
import Derived.Test.YtklmcbabpncfmaaDoorSlVer
import Derived.Test.YtklmcbabpncfmaaDoorM4
import Derived.Deep.RegionHeld3
namespace Go.Proofs.YtklmcbabpncfmaaDoor
open Go.RowKit
set_option linter.unusedVariables false
set_option linter.unusedSimpArgs false
/-- Whether a version is not valid. -/
def badVer (v : Ver) : Bool := !verOk v
theorem bad_all (vs : List Ver) : (!anyP badVer vs) = vs.all verOk := by
  induction vs with
  | nil => rfl
  | cons a l ih =>
    rw [List.all_cons, ← ih, anyP, anyP, List.any_cons, badVer]
    cases verOk a <;> simp
theorem isStore1_any (x : Ver) (w : World) :
    Calls Tryd.prog 69 #[.agg #[.slice x.da x.data.length x.dc, .int .i64 x.made, .bool x.gone, .bool x.dead]] w fun e w' => e = .returned (.bool (badVer x)) ∧ Below w.heap.size w w' := by
  have H := Hp.nil w
  go_enter Tryd.func69, Tryd.ntmps69
  go_wp2_with (go_at_call 70; refine (isVer_any x _).mono ?_; rintro e w1 ⟨rfl, q1⟩; replace H := Hp.step (by repeat (first | (with_reducible exact H) | (with_reducible apply Hp.alloc) | (with_reducible apply Hp.set) | (with_reducible apply Hp.drew) | (with_reducible apply Hp.drewN) | (with_reducible apply Hp.bytesW) | (with_reducible exact Upd.here) | (with_reducible exact Upd.hereR) | (with_reducible apply Upd.there) | (with_reducible apply Sz.alloc) | (with_reducible apply Sz.set) | (with_reducible apply Sz.drew) | (with_reducible apply Sz.drewN) | (with_reducible apply Sz.bytesW) | (with_reducible assumption) | (with_reducible exact Sz.base _))) q1; (try simp only [List.set_cons_zero, List.set_cons_succ, List.cons_append, List.nil_append] at H); clear q1; (try have F := H.facts; simp only [Facts, NeF, box, row, reg, cellsF, ne_eq, true_and, and_true, Nat.reduceAdd, Nat.zero_add] at F))
  go_ret
  exact ⟨rfl, Hp.b (by repeat (first | (with_reducible exact H) | (with_reducible apply Hp.alloc) | (with_reducible apply Hp.set) | (with_reducible apply Hp.drew) | (with_reducible apply Hp.drewN) | (with_reducible apply Hp.bytesW) | (with_reducible exact Upd.here) | (with_reducible exact Upd.hereR) | (with_reducible apply Upd.there) | (with_reducible apply Sz.alloc) | (with_reducible apply Sz.set) | (with_reducible apply Sz.drew) | (with_reducible apply Sz.drewN) | (with_reducible apply Sz.bytesW) | (with_reducible assumption) | (with_reducible exact Sz.base _)))⟩
set_option maxHeartbeats 32000000 in
set_option maxRecDepth 10000 in
theorem isStore_any (A : Option Addr) (n c : Nat) (es : List Entry) (w : World) (hr : Rd w w.heap.size 3 A n c (es.flatMap encEntry)) (hn : es.length = n) (hsz : ∀ u ∈ es, u.path.size ≤ maxLen) (hd : ∀ u ∈ es, DE 0 w u) (hml : mlOk w) :
    Calls Tryd.prog 40 #[.agg #[.slice A n c]] w fun e w' => e = .returned (.bool (storeOk es)) ∧ Below w.heap.size w w' := by
  have eg := enters_of (P := Tryd.prog) Tryd.func69 (by kernel_rfl) rfl
  have hc := hr.2.1
  have hm := hr.2.2.1
  unfold maxLen at hm
  have H := Hp.nil w
  go_enter Tryd.func40, Tryd.ntmps40
  go_wp2_with fail
  have HH := Lib.hid H; clear H
  go_loopw [8] (fun i wr => ∃ k : Nat, k ≤ n ∧ i = .int .i64 k ∧ Hid (entRise es k = true) ∧ Hid (Hp w wr [box w.heap.size 26 [.slice A n c]])) (fun i _ => n - (intOf i).toNat)
  case atStart =>
    have H := HH.out
    exact ⟨0, Nat.zero_le _, rfl, rfl, Lib.hid (by repeat (first | (with_reducible exact H) | (with_reducible apply Hp.alloc) | (with_reducible apply Hp.set) | (with_reducible apply Hp.drew) | (with_reducible apply Hp.drewN) | (with_reducible apply Hp.bytesW) | (with_reducible exact Upd.here) | (with_reducible exact Upd.hereR) | (with_reducible apply Upd.there) | (with_reducible apply Sz.alloc) | (with_reducible apply Sz.set) | (with_reducible apply Sz.drew) | (with_reducible apply Sz.drewN) | (with_reducible apply Sz.bytesW) | (with_reducible assumption) | (with_reducible exact Sz.base _)))⟩
  case round =>
    clear HH
    obtain ⟨k, hk, rfl, HR, HP⟩ := hrel
    have H := HP.out
    have F := H.facts; simp only [Facts, NeF, box, row, reg, cellsF, ne_eq, true_and, and_true, Nat.reduceAdd, Nat.zero_add] at F
    by_cases hlt : k < n
    · obtain ⟨b, off, rfl, hb⟩ := Rd.atV (enc := encEntry) hr hn encEntry_len (by omega)
      have hcs : ∀ (W : World) (L : List Ent), Hp w W L → _ := fun W L h => Rd.entAt hr hn (k := k) (by omega) rfl W h.b
      have hls : (es[k]'(by omega)).path.size ≤ maxLen := hsz _ (List.getElem_mem _)
      have hvr : Rd w w.heap.size 4 (es[k]'(by omega)).va (es[k]'(by omega)).vs.length (es[k]'(by omega)).vc ((es[k]'(by omega)).vs.flatMap encVer) := (hd _ (List.getElem_mem _)).1.1
      have hst : entStep es k = (entOk (es[k]'(by omega)) && (decide (k = 0) || ltS ((es[k - 1]?.map (·.path)).getD ByteArray.empty) (es[k]'(by omega)).path)) := by
        unfold entStep; rw [List.getElem?_eq_getElem (by omega : k < es.length)]
      have hk1 : (k : Int) < (n : Int) := by omega
      have hk0 : (0 : Int) ≤ (k : Int) := by omega
      by_cases hkz : k = 0
      · have hk2 : decide ((0 : Int) < (k : Int)) = false := by simp; omega
        have hk2n : decide (0 < k) = false := by simp; omega
        have hst0 : entStep es k = (pathF (es[k]'(by omega)).path && (inR (es[k]'(by omega)).first 1 1000000 && (inR (es[k]'(by omega)).vs.length 1 8 && (es[k]'(by omega)).vs.all verOk))) := by rw [hst]; simp [hkz, entOk]
        clear hst
        generalize (es[k]'(by omega)) = l at *
        clear hkz
        cases g1 : pathF l.path with
        | false =>
          have g2 : True := trivial
          have g3 : True := trivial
          have g4 : True := trivial
          have HN : Hid (entRise es n = false) := entRise_no hlt (by rw [hst0, g1]; simp)
          have HE : Hid (storeOk es = false) := by show _ = _; rw [storeOk, hn, HN.out]; simp
          clear hst0
          have HCS := Lib.hid hcs
          clear hcs
          obtain ⟨c0, c1, c2⟩ := HCS.out _ _ H
          obtain ⟨path, first, vs, va, vc⟩ := l
          dsimp only at c0 c1 c2 hls g1 g2 g3 g4 hvr
          have HVR := Lib.hid hvr; clear hvr
          have hbw : b < wr.heap.size := Nat.lt_of_lt_of_le hb H.b.size
          have hbe : ¬ b = wr.heap.size ∧ ¬ wr.heap.size = b := by omega
          go_wp2_with fail
          replace H := H.alloc (t := 62) (cs := [.string path, .int .i64 first, .slice va vs.length vc]) (Sz.base wr)
          clear F; have F := H.facts; simp only [Facts, NeF, box, row, reg, cellsF, ne_eq, true_and, and_true, Nat.reduceAdd, Nat.zero_add] at F
          clear F
          (refine wp_region_quiet (C := fun W => Hp w W [box wr.heap.size 62 [.string path, .int .i64 first, .slice va vs.length vc], box w.heap.size 26 [.slice (some ⟨b, off, none⟩) n c]]) (by kernel_rfl) (by kernel_rfl) (by show Hp _ (World.drew _) _; exact (by repeat (first | (with_reducible exact H) | (with_reducible apply Hp.alloc) | (with_reducible apply Hp.set) | (with_reducible apply Hp.drew) | (with_reducible apply Hp.drewN) | (with_reducible apply Hp.bytesW) | (with_reducible exact Upd.here) | (with_reducible exact Upd.hereR) | (with_reducible apply Upd.there) | (with_reducible apply Sz.alloc) | (with_reducible apply Sz.set) | (with_reducible apply Sz.drew) | (with_reducible apply Sz.drewN) | (with_reducible apply Sz.bytesW) | (with_reducible assumption) | (with_reducible exact Sz.base _)))) ?_; (repeat (first | go_big_quiet_skip | (refine BigFrame.wpQuiet_want (by rfl) (fun K hK => ?_); unfold Oper.quiet; apply Exists.intro; refine ⟨fun W hW => ?_, hK _ ?_⟩; (focus (have G := hW.facts; simp only [Facts, NeF, box, row, reg, cellsF, ne_eq, true_and, and_true, Nat.reduceAdd, Nat.zero_add] at G; skip; go_simp; first | rfl | (go_at_call 67; refine (within_any _ _ _ _).mono ?_; rintro e w' ⟨rfl, rfl⟩; (first | rw [g2] | rw [g3]); exact ⟨rfl, hW⟩) | (go_at_call 53; refine (isPath_any path _ hls (hml.on hW.b)).mono ?_; rintro e w1 ⟨rfl, hb1⟩; rw [g1]; exact ⟨rfl, hW.step hb1⟩) | (go_at_call 68; refine (containsFuncVer_any 69 #[] badVer eg va vs.length vc vs _ (fun W x hb => isStore1_any x W) (HVR.out.grow hW.b) rfl).mono ?_; rintro e w1 ⟨rfl, hb1⟩; rw [g4]; exact ⟨rfl, hW.step hb1⟩))); clear hK K; simp only [Act.put, List.setIfInBounds_toArray, List.set_cons_zero, List.set_cons_succ]))); refine wpQuiet_nil ?_; intro wq H; have F := H.facts; simp only [Facts, NeF, box, row, reg, cellsF, ne_eq, true_and, and_true, Nat.reduceAdd, Nat.zero_add] at F)
          all_goals
            go_wp2_with fail
            go_ret
            exact ⟨by rw [HE.out]; rfl, Hp.b (by repeat (first | (with_reducible exact H) | (with_reducible apply Hp.alloc) | (with_reducible apply Hp.set) | (with_reducible apply Hp.drew) | (with_reducible apply Hp.drewN) | (with_reducible apply Hp.bytesW) | (with_reducible exact Upd.here) | (with_reducible exact Upd.hereR) | (with_reducible apply Upd.there) | (with_reducible apply Sz.alloc) | (with_reducible apply Sz.set) | (with_reducible apply Sz.drew) | (with_reducible apply Sz.drewN) | (with_reducible apply Sz.bytesW) | (with_reducible assumption) | (with_reducible exact Sz.base _)))⟩
        | true =>
        cases g2 : inR l.first 1 1000000 with
        | false =>
          have g3 : True := trivial
          have g4 : True := trivial
          have HN : Hid (entRise es n = false) := entRise_no hlt (by rw [hst0, g1, g2]; simp)
          have HE : Hid (storeOk es = false) := by show _ = _; rw [storeOk, hn, HN.out]; simp
          clear hst0
          have HCS := Lib.hid hcs
          clear hcs
          obtain ⟨c0, c1, c2⟩ := HCS.out _ _ H
          obtain ⟨path, first, vs, va, vc⟩ := l
          dsimp only at c0 c1 c2 hls g1 g2 g3 g4 hvr
          have HVR := Lib.hid hvr; clear hvr
          have hbw : b < wr.heap.size := Nat.lt_of_lt_of_le hb H.b.size
          have hbe : ¬ b = wr.heap.size ∧ ¬ wr.heap.size = b := by omega
          go_wp2_with fail
          replace H := H.alloc (t := 62) (cs := [.string path, .int .i64 first, .slice va vs.length vc]) (Sz.base wr)
          clear F; have F := H.facts; simp only [Facts, NeF, box, row, reg, cellsF, ne_eq, true_and, and_true, Nat.reduceAdd, Nat.zero_add] at F
          clear F
          (refine wp_region_quiet (C := fun W => Hp w W [box wr.heap.size 62 [.string path, .int .i64 first, .slice va vs.length vc], box w.heap.size 26 [.slice (some ⟨b, off, none⟩) n c]]) (by kernel_rfl) (by kernel_rfl) (by show Hp _ (World.drew _) _; exact (by repeat (first | (with_reducible exact H) | (with_reducible apply Hp.alloc) | (with_reducible apply Hp.set) | (with_reducible apply Hp.drew) | (with_reducible apply Hp.drewN) | (with_reducible apply Hp.bytesW) | (with_reducible exact Upd.here) | (with_reducible exact Upd.hereR) | (with_reducible apply Upd.there) | (with_reducible apply Sz.alloc) | (with_reducible apply Sz.set) | (with_reducible apply Sz.drew) | (with_reducible apply Sz.drewN) | (with_reducible apply Sz.bytesW) | (with_reducible assumption) | (with_reducible exact Sz.base _)))) ?_; (repeat (first | go_big_quiet_skip | (refine BigFrame.wpQuiet_want (by rfl) (fun K hK => ?_); unfold Oper.quiet; apply Exists.intro; refine ⟨fun W hW => ?_, hK _ ?_⟩; (focus (have G := hW.facts; simp only [Facts, NeF, box, row, reg, cellsF, ne_eq, true_and, and_true, Nat.reduceAdd, Nat.zero_add] at G; skip; go_simp; first | rfl | (go_at_call 67; refine (within_any _ _ _ _).mono ?_; rintro e w' ⟨rfl, rfl⟩; (first | rw [g2] | rw [g3]); exact ⟨rfl, hW⟩) | (go_at_call 53; refine (isPath_any path _ hls (hml.on hW.b)).mono ?_; rintro e w1 ⟨rfl, hb1⟩; rw [g1]; exact ⟨rfl, hW.step hb1⟩) | (go_at_call 68; refine (containsFuncVer_any 69 #[] badVer eg va vs.length vc vs _ (fun W x hb => isStore1_any x W) (HVR.out.grow hW.b) rfl).mono ?_; rintro e w1 ⟨rfl, hb1⟩; rw [g4]; exact ⟨rfl, hW.step hb1⟩))); clear hK K; simp only [Act.put, List.setIfInBounds_toArray, List.set_cons_zero, List.set_cons_succ]))); refine wpQuiet_nil ?_; intro wq H; have F := H.facts; simp only [Facts, NeF, box, row, reg, cellsF, ne_eq, true_and, and_true, Nat.reduceAdd, Nat.zero_add] at F)
          all_goals
            go_wp2_with fail
            go_ret
            exact ⟨by rw [HE.out]; rfl, Hp.b (by repeat (first | (with_reducible exact H) | (with_reducible apply Hp.alloc) | (with_reducible apply Hp.set) | (with_reducible apply Hp.drew) | (with_reducible apply Hp.drewN) | (with_reducible apply Hp.bytesW) | (with_reducible exact Upd.here) | (with_reducible exact Upd.hereR) | (with_reducible apply Upd.there) | (with_reducible apply Sz.alloc) | (with_reducible apply Sz.set) | (with_reducible apply Sz.drew) | (with_reducible apply Sz.drewN) | (with_reducible apply Sz.bytesW) | (with_reducible assumption) | (with_reducible exact Sz.base _)))⟩
        | true =>
        cases g3 : inR l.vs.length 1 8 with
        | false =>
          have g4 : True := trivial
          have HN : Hid (entRise es n = false) := entRise_no hlt (by rw [hst0, g1, g2, g3]; simp)
          have HE : Hid (storeOk es = false) := by show _ = _; rw [storeOk, hn, HN.out]; simp
          clear hst0
          have HCS := Lib.hid hcs
          clear hcs
          obtain ⟨c0, c1, c2⟩ := HCS.out _ _ H
          obtain ⟨path, first, vs, va, vc⟩ := l
          dsimp only at c0 c1 c2 hls g1 g2 g3 g4 hvr
          have HVR := Lib.hid hvr; clear hvr
          have hbw : b < wr.heap.size := Nat.lt_of_lt_of_le hb H.b.size
          have hbe : ¬ b = wr.heap.size ∧ ¬ wr.heap.size = b := by omega
          go_wp2_with fail
          replace H := H.alloc (t := 62) (cs := [.string path, .int .i64 first, .slice va vs.length vc]) (Sz.base wr)
          clear F; have F := H.facts; simp only [Facts, NeF, box, row, reg, cellsF, ne_eq, true_and, and_true, Nat.reduceAdd, Nat.zero_add] at F
          clear F
          (refine wp_region_quiet (C := fun W => Hp w W [box wr.heap.size 62 [.string path, .int .i64 first, .slice va vs.length vc], box w.heap.size 26 [.slice (some ⟨b, off, none⟩) n c]]) (by kernel_rfl) (by kernel_rfl) (by show Hp _ (World.drew _) _; exact (by repeat (first | (with_reducible exact H) | (with_reducible apply Hp.alloc) | (with_reducible apply Hp.set) | (with_reducible apply Hp.drew) | (with_reducible apply Hp.drewN) | (with_reducible apply Hp.bytesW) | (with_reducible exact Upd.here) | (with_reducible exact Upd.hereR) | (with_reducible apply Upd.there) | (with_reducible apply Sz.alloc) | (with_reducible apply Sz.set) | (with_reducible apply Sz.drew) | (with_reducible apply Sz.drewN) | (with_reducible apply Sz.bytesW) | (with_reducible assumption) | (with_reducible exact Sz.base _)))) ?_; (repeat (first | go_big_quiet_skip | (refine BigFrame.wpQuiet_want (by rfl) (fun K hK => ?_); unfold Oper.quiet; apply Exists.intro; refine ⟨fun W hW => ?_, hK _ ?_⟩; (focus (have G := hW.facts; simp only [Facts, NeF, box, row, reg, cellsF, ne_eq, true_and, and_true, Nat.reduceAdd, Nat.zero_add] at G; skip; go_simp; first | rfl | (go_at_call 67; refine (within_any _ _ _ _).mono ?_; rintro e w' ⟨rfl, rfl⟩; (first | rw [g2] | rw [g3]); exact ⟨rfl, hW⟩) | (go_at_call 53; refine (isPath_any path _ hls (hml.on hW.b)).mono ?_; rintro e w1 ⟨rfl, hb1⟩; rw [g1]; exact ⟨rfl, hW.step hb1⟩) | (go_at_call 68; refine (containsFuncVer_any 69 #[] badVer eg va vs.length vc vs _ (fun W x hb => isStore1_any x W) (HVR.out.grow hW.b) rfl).mono ?_; rintro e w1 ⟨rfl, hb1⟩; rw [g4]; exact ⟨rfl, hW.step hb1⟩))); clear hK K; simp only [Act.put, List.setIfInBounds_toArray, List.set_cons_zero, List.set_cons_succ]))); refine wpQuiet_nil ?_; intro wq H; have F := H.facts; simp only [Facts, NeF, box, row, reg, cellsF, ne_eq, true_and, and_true, Nat.reduceAdd, Nat.zero_add] at F)
          all_goals
            go_wp2_with fail
            go_ret
            exact ⟨by rw [HE.out]; rfl, Hp.b (by repeat (first | (with_reducible exact H) | (with_reducible apply Hp.alloc) | (with_reducible apply Hp.set) | (with_reducible apply Hp.drew) | (with_reducible apply Hp.drewN) | (with_reducible apply Hp.bytesW) | (with_reducible exact Upd.here) | (with_reducible exact Upd.hereR) | (with_reducible apply Upd.there) | (with_reducible apply Sz.alloc) | (with_reducible apply Sz.set) | (with_reducible apply Sz.drew) | (with_reducible apply Sz.drewN) | (with_reducible apply Sz.bytesW) | (with_reducible assumption) | (with_reducible exact Sz.base _)))⟩
        | true =>
        cases g4 : anyP badVer l.vs with
        | true =>
          have HN : Hid (entRise es n = false) := entRise_no hlt (by rw [hst0, g1, g2, g3, ← bad_all, g4]; simp)
          have HE : Hid (storeOk es = false) := by show _ = _; rw [storeOk, hn, HN.out]; simp
          clear hst0
          have HCS := Lib.hid hcs
          clear hcs
          obtain ⟨c0, c1, c2⟩ := HCS.out _ _ H
          obtain ⟨path, first, vs, va, vc⟩ := l
          dsimp only at c0 c1 c2 hls g1 g2 g3 g4 hvr
          have HVR := Lib.hid hvr; clear hvr
          have hbw : b < wr.heap.size := Nat.lt_of_lt_of_le hb H.b.size
          have hbe : ¬ b = wr.heap.size ∧ ¬ wr.heap.size = b := by omega
          go_wp2_with fail
          replace H := H.alloc (t := 62) (cs := [.string path, .int .i64 first, .slice va vs.length vc]) (Sz.base wr)
          clear F; have F := H.facts; simp only [Facts, NeF, box, row, reg, cellsF, ne_eq, true_and, and_true, Nat.reduceAdd, Nat.zero_add] at F
          clear F
          (refine wp_region_quiet (C := fun W => Hp w W [box wr.heap.size 62 [.string path, .int .i64 first, .slice va vs.length vc], box w.heap.size 26 [.slice (some ⟨b, off, none⟩) n c]]) (by kernel_rfl) (by kernel_rfl) (by show Hp _ (World.drew _) _; exact (by repeat (first | (with_reducible exact H) | (with_reducible apply Hp.alloc) | (with_reducible apply Hp.set) | (with_reducible apply Hp.drew) | (with_reducible apply Hp.drewN) | (with_reducible apply Hp.bytesW) | (with_reducible exact Upd.here) | (with_reducible exact Upd.hereR) | (with_reducible apply Upd.there) | (with_reducible apply Sz.alloc) | (with_reducible apply Sz.set) | (with_reducible apply Sz.drew) | (with_reducible apply Sz.drewN) | (with_reducible apply Sz.bytesW) | (with_reducible assumption) | (with_reducible exact Sz.base _)))) ?_; (repeat (first | go_big_quiet_skip | (refine BigFrame.wpQuiet_want (by rfl) (fun K hK => ?_); unfold Oper.quiet; apply Exists.intro; refine ⟨fun W hW => ?_, hK _ ?_⟩; (focus (have G := hW.facts; simp only [Facts, NeF, box, row, reg, cellsF, ne_eq, true_and, and_true, Nat.reduceAdd, Nat.zero_add] at G; skip; go_simp; first | rfl | (go_at_call 67; refine (within_any _ _ _ _).mono ?_; rintro e w' ⟨rfl, rfl⟩; (first | rw [g2] | rw [g3]); exact ⟨rfl, hW⟩) | (go_at_call 53; refine (isPath_any path _ hls (hml.on hW.b)).mono ?_; rintro e w1 ⟨rfl, hb1⟩; rw [g1]; exact ⟨rfl, hW.step hb1⟩) | (go_at_call 68; refine (containsFuncVer_any 69 #[] badVer eg va vs.length vc vs _ (fun W x hb => isStore1_any x W) (HVR.out.grow hW.b) rfl).mono ?_; rintro e w1 ⟨rfl, hb1⟩; rw [g4]; exact ⟨rfl, hW.step hb1⟩))); clear hK K; simp only [Act.put, List.setIfInBounds_toArray, List.set_cons_zero, List.set_cons_succ]))); refine wpQuiet_nil ?_; intro wq H; have F := H.facts; simp only [Facts, NeF, box, row, reg, cellsF, ne_eq, true_and, and_true, Nat.reduceAdd, Nat.zero_add] at F)
          all_goals
            go_wp2_with fail
            go_ret
            exact ⟨by rw [HE.out]; rfl, Hp.b (by repeat (first | (with_reducible exact H) | (with_reducible apply Hp.alloc) | (with_reducible apply Hp.set) | (with_reducible apply Hp.drew) | (with_reducible apply Hp.drewN) | (with_reducible apply Hp.bytesW) | (with_reducible exact Upd.here) | (with_reducible exact Upd.hereR) | (with_reducible apply Upd.there) | (with_reducible apply Sz.alloc) | (with_reducible apply Sz.set) | (with_reducible apply Sz.drew) | (with_reducible apply Sz.drewN) | (with_reducible apply Sz.bytesW) | (with_reducible assumption) | (with_reducible exact Sz.base _)))⟩
        | false =>
          have HN : Hid (entRise es (k + 1) = true) := entRise_snoc HR.out (by rw [hst0, g1, g2, g3, ← bad_all, g4]; rfl)
          clear hst0
          have HCS := Lib.hid hcs
          clear hcs
          obtain ⟨c0, c1, c2⟩ := HCS.out _ _ H
          obtain ⟨path, first, vs, va, vc⟩ := l
          dsimp only at c0 c1 c2 hls g1 g2 g3 g4 hvr
          have HVR := Lib.hid hvr; clear hvr
          have hbw : b < wr.heap.size := Nat.lt_of_lt_of_le hb H.b.size
          have hbe : ¬ b = wr.heap.size ∧ ¬ wr.heap.size = b := by omega
          go_wp2_with fail
          replace H := H.alloc (t := 62) (cs := [.string path, .int .i64 first, .slice va vs.length vc]) (Sz.base wr)
          clear F; have F := H.facts; simp only [Facts, NeF, box, row, reg, cellsF, ne_eq, true_and, and_true, Nat.reduceAdd, Nat.zero_add] at F
          clear F
          (refine wp_region_quiet (C := fun W => Hp w W [box wr.heap.size 62 [.string path, .int .i64 first, .slice va vs.length vc], box w.heap.size 26 [.slice (some ⟨b, off, none⟩) n c]]) (by kernel_rfl) (by kernel_rfl) (by show Hp _ (World.drew _) _; exact (by repeat (first | (with_reducible exact H) | (with_reducible apply Hp.alloc) | (with_reducible apply Hp.set) | (with_reducible apply Hp.drew) | (with_reducible apply Hp.drewN) | (with_reducible apply Hp.bytesW) | (with_reducible exact Upd.here) | (with_reducible exact Upd.hereR) | (with_reducible apply Upd.there) | (with_reducible apply Sz.alloc) | (with_reducible apply Sz.set) | (with_reducible apply Sz.drew) | (with_reducible apply Sz.drewN) | (with_reducible apply Sz.bytesW) | (with_reducible assumption) | (with_reducible exact Sz.base _)))) ?_; (repeat (first | go_big_quiet_skip | (refine BigFrame.wpQuiet_want (by rfl) (fun K hK => ?_); unfold Oper.quiet; apply Exists.intro; refine ⟨fun W hW => ?_, hK _ ?_⟩; (focus (have G := hW.facts; simp only [Facts, NeF, box, row, reg, cellsF, ne_eq, true_and, and_true, Nat.reduceAdd, Nat.zero_add] at G; skip; go_simp; first | rfl | (go_at_call 67; refine (within_any _ _ _ _).mono ?_; rintro e w' ⟨rfl, rfl⟩; (first | rw [g2] | rw [g3]); exact ⟨rfl, hW⟩) | (go_at_call 53; refine (isPath_any path _ hls (hml.on hW.b)).mono ?_; rintro e w1 ⟨rfl, hb1⟩; rw [g1]; exact ⟨rfl, hW.step hb1⟩) | (go_at_call 68; refine (containsFuncVer_any 69 #[] badVer eg va vs.length vc vs _ (fun W x hb => isStore1_any x W) (HVR.out.grow hW.b) rfl).mono ?_; rintro e w1 ⟨rfl, hb1⟩; rw [g4]; exact ⟨rfl, hW.step hb1⟩))); clear hK K; simp only [Act.put, List.setIfInBounds_toArray, List.set_cons_zero, List.set_cons_succ]))); refine wpQuiet_nil ?_; intro wq H; have F := H.facts; simp only [Facts, NeF, box, row, reg, cellsF, ne_eq, true_and, and_true, Nat.reduceAdd, Nat.zero_add] at F)
          all_goals
            go_wp2_with fail
            go_roundw
            case rel => exact ⟨k + 1, by omega, by go_num, HN, Lib.hid (by refine Hp.sel (by repeat (first | (with_reducible exact H) | (with_reducible apply Hp.alloc) | (with_reducible apply Hp.set) | (with_reducible apply Hp.drew) | (with_reducible apply Hp.drewN) | (with_reducible apply Hp.bytesW) | (with_reducible exact Upd.here) | (with_reducible exact Upd.hereR) | (with_reducible apply Upd.there) | (with_reducible apply Sz.alloc) | (with_reducible apply Sz.set) | (with_reducible apply Sz.drew) | (with_reducible apply Sz.drewN) | (with_reducible apply Sz.bytesW) | (with_reducible assumption) | (with_reducible exact Sz.base _))) ?_; (try simp only [List.set_cons_zero, List.set_cons_succ]); exact (by repeat (first | (with_reducible exact Sel.nil) | (with_reducible apply Sel.cons) | (with_reducible exact Del.here) | (with_reducible apply Del.there))))⟩
            case measure => simp [intOf]; omega
      · have hk2 : decide ((0 : Int) < (k : Int)) = true := by simp; omega
        have hk2n : decide (0 < k) = true := by simp; omega
        have hw1 : IntKind.i64.wrap ((k : Int) - 1) = (k : Int) - 1 := by rw [IntKind.wrap_i64]; omega
        have hp1 : (k : Int) - 1 < (n : Int) := by omega
        have hp0 : (0 : Int) ≤ (k : Int) - 1 := by omega
        have hp2 : (1 : Int) ≤ (k : Int) := by omega
        have hqs : ∀ (W : World) (L : List Ent), Hp w W L → W.cell? ⟨b, off + (k - 1) * 3, none⟩ = some (.string (es[k - 1]'(by omega)).path) := fun W L h => (Rd.entAt hr hn (k := k - 1) (by omega) rfl W h.b).1
        have hpe : (es[k - 1]?.map (·.path)).getD ByteArray.empty = (es[k - 1]'(by omega)).path := by rw [List.getElem?_eq_getElem (by omega : k - 1 < es.length)]; rfl
        have hst0 : entStep es k = ((pathF (es[k]'(by omega)).path && (inR (es[k]'(by omega)).first 1 1000000 && (inR (es[k]'(by omega)).vs.length 1 8 && (es[k]'(by omega)).vs.all verOk))) && ltS (es[k - 1]'(by omega)).path (es[k]'(by omega)).path) := by rw [hst, hpe]; simp [hkz, entOk]
        clear hpe hst
        generalize (es[k - 1]'(by omega)).path = q at *
        have HQS := Lib.hid hqs
        clear hqs
        generalize (es[k]'(by omega)) = l at *
        clear hkz
        cases g1 : pathF l.path with
        | false =>
          have g2 : True := trivial
          have g3 : True := trivial
          have g4 : True := trivial
          have g5 : True := trivial
          have HN : Hid (entRise es n = false) := entRise_no hlt (by rw [hst0, g1]; simp)
          have HE : Hid (storeOk es = false) := by show _ = _; rw [storeOk, hn, HN.out]; simp
          clear hst0
          have HCS := Lib.hid hcs
          clear hcs
          obtain ⟨c0, c1, c2⟩ := HCS.out _ _ H
          obtain ⟨path, first, vs, va, vc⟩ := l
          dsimp only at c0 c1 c2 hls g1 g2 g3 g4 hvr g5
          have HVR := Lib.hid hvr; clear hvr
          have hbw : b < wr.heap.size := Nat.lt_of_lt_of_le hb H.b.size
          have hbe : ¬ b = wr.heap.size ∧ ¬ wr.heap.size = b := by omega
          go_wp2_with fail
          replace H := H.alloc (t := 62) (cs := [.string path, .int .i64 first, .slice va vs.length vc]) (Sz.base wr)
          clear F; have F := H.facts; simp only [Facts, NeF, box, row, reg, cellsF, ne_eq, true_and, and_true, Nat.reduceAdd, Nat.zero_add] at F
          clear F
          (refine wp_region_quiet (C := fun W => Hp w W [box wr.heap.size 62 [.string path, .int .i64 first, .slice va vs.length vc], box w.heap.size 26 [.slice (some ⟨b, off, none⟩) n c]]) (by kernel_rfl) (by kernel_rfl) (by show Hp _ (World.drew _) _; exact (by repeat (first | (with_reducible exact H) | (with_reducible apply Hp.alloc) | (with_reducible apply Hp.set) | (with_reducible apply Hp.drew) | (with_reducible apply Hp.drewN) | (with_reducible apply Hp.bytesW) | (with_reducible exact Upd.here) | (with_reducible exact Upd.hereR) | (with_reducible apply Upd.there) | (with_reducible apply Sz.alloc) | (with_reducible apply Sz.set) | (with_reducible apply Sz.drew) | (with_reducible apply Sz.drewN) | (with_reducible apply Sz.bytesW) | (with_reducible assumption) | (with_reducible exact Sz.base _)))) ?_; (repeat (first | go_big_quiet_skip | (refine BigFrame.wpQuiet_want (by rfl) (fun K hK => ?_); unfold Oper.quiet; apply Exists.intro; refine ⟨fun W hW => ?_, hK _ ?_⟩; (focus (have G := hW.facts; simp only [Facts, NeF, box, row, reg, cellsF, ne_eq, true_and, and_true, Nat.reduceAdd, Nat.zero_add] at G; have q0 := HQS.out _ _ hW; have hbw9 := Nat.lt_of_lt_of_le hb hW.b.size; go_simp; first | rfl | (go_at_call 67; refine (within_any _ _ _ _).mono ?_; rintro e w' ⟨rfl, rfl⟩; (first | rw [g2] | rw [g3]); exact ⟨rfl, hW⟩) | (go_at_call 53; refine (isPath_any path _ hls (hml.on hW.b)).mono ?_; rintro e w1 ⟨rfl, hb1⟩; rw [g1]; exact ⟨rfl, hW.step hb1⟩) | (go_at_call 68; refine (containsFuncVer_any 69 #[] badVer eg va vs.length vc vs _ (fun W x hb => isStore1_any x W) (HVR.out.grow hW.b) rfl).mono ?_; rintro e w1 ⟨rfl, hb1⟩; rw [g4]; exact ⟨rfl, hW.step hb1⟩))); clear hK K; simp only [Act.put, List.setIfInBounds_toArray, List.set_cons_zero, List.set_cons_succ]))); refine wpQuiet_nil ?_; intro wq H; have F := H.facts; simp only [Facts, NeF, box, row, reg, cellsF, ne_eq, true_and, and_true, Nat.reduceAdd, Nat.zero_add] at F)
          all_goals
            go_wp2_with fail
            go_ret
            exact ⟨by rw [HE.out]; rfl, Hp.b (by repeat (first | (with_reducible exact H) | (with_reducible apply Hp.alloc) | (with_reducible apply Hp.set) | (with_reducible apply Hp.drew) | (with_reducible apply Hp.drewN) | (with_reducible apply Hp.bytesW) | (with_reducible exact Upd.here) | (with_reducible exact Upd.hereR) | (with_reducible apply Upd.there) | (with_reducible apply Sz.alloc) | (with_reducible apply Sz.set) | (with_reducible apply Sz.drew) | (with_reducible apply Sz.drewN) | (with_reducible apply Sz.bytesW) | (with_reducible assumption) | (with_reducible exact Sz.base _)))⟩
        | true =>
        cases g2 : inR l.first 1 1000000 with
        | false =>
          have g3 : True := trivial
          have g4 : True := trivial
          have g5 : True := trivial
          have HN : Hid (entRise es n = false) := entRise_no hlt (by rw [hst0, g1, g2]; simp)
          have HE : Hid (storeOk es = false) := by show _ = _; rw [storeOk, hn, HN.out]; simp
          clear hst0
          have HCS := Lib.hid hcs
          clear hcs
          obtain ⟨c0, c1, c2⟩ := HCS.out _ _ H
          obtain ⟨path, first, vs, va, vc⟩ := l
          dsimp only at c0 c1 c2 hls g1 g2 g3 g4 hvr g5
          have HVR := Lib.hid hvr; clear hvr
          have hbw : b < wr.heap.size := Nat.lt_of_lt_of_le hb H.b.size
          have hbe : ¬ b = wr.heap.size ∧ ¬ wr.heap.size = b := by omega
          go_wp2_with fail
          replace H := H.alloc (t := 62) (cs := [.string path, .int .i64 first, .slice va vs.length vc]) (Sz.base wr)
          clear F; have F := H.facts; simp only [Facts, NeF, box, row, reg, cellsF, ne_eq, true_and, and_true, Nat.reduceAdd, Nat.zero_add] at F
          clear F
          (refine wp_region_quiet (C := fun W => Hp w W [box wr.heap.size 62 [.string path, .int .i64 first, .slice va vs.length vc], box w.heap.size 26 [.slice (some ⟨b, off, none⟩) n c]]) (by kernel_rfl) (by kernel_rfl) (by show Hp _ (World.drew _) _; exact (by repeat (first | (with_reducible exact H) | (with_reducible apply Hp.alloc) | (with_reducible apply Hp.set) | (with_reducible apply Hp.drew) | (with_reducible apply Hp.drewN) | (with_reducible apply Hp.bytesW) | (with_reducible exact Upd.here) | (with_reducible exact Upd.hereR) | (with_reducible apply Upd.there) | (with_reducible apply Sz.alloc) | (with_reducible apply Sz.set) | (with_reducible apply Sz.drew) | (with_reducible apply Sz.drewN) | (with_reducible apply Sz.bytesW) | (with_reducible assumption) | (with_reducible exact Sz.base _)))) ?_; (repeat (first | go_big_quiet_skip | (refine BigFrame.wpQuiet_want (by rfl) (fun K hK => ?_); unfold Oper.quiet; apply Exists.intro; refine ⟨fun W hW => ?_, hK _ ?_⟩; (focus (have G := hW.facts; simp only [Facts, NeF, box, row, reg, cellsF, ne_eq, true_and, and_true, Nat.reduceAdd, Nat.zero_add] at G; have q0 := HQS.out _ _ hW; have hbw9 := Nat.lt_of_lt_of_le hb hW.b.size; go_simp; first | rfl | (go_at_call 67; refine (within_any _ _ _ _).mono ?_; rintro e w' ⟨rfl, rfl⟩; (first | rw [g2] | rw [g3]); exact ⟨rfl, hW⟩) | (go_at_call 53; refine (isPath_any path _ hls (hml.on hW.b)).mono ?_; rintro e w1 ⟨rfl, hb1⟩; rw [g1]; exact ⟨rfl, hW.step hb1⟩) | (go_at_call 68; refine (containsFuncVer_any 69 #[] badVer eg va vs.length vc vs _ (fun W x hb => isStore1_any x W) (HVR.out.grow hW.b) rfl).mono ?_; rintro e w1 ⟨rfl, hb1⟩; rw [g4]; exact ⟨rfl, hW.step hb1⟩))); clear hK K; simp only [Act.put, List.setIfInBounds_toArray, List.set_cons_zero, List.set_cons_succ]))); refine wpQuiet_nil ?_; intro wq H; have F := H.facts; simp only [Facts, NeF, box, row, reg, cellsF, ne_eq, true_and, and_true, Nat.reduceAdd, Nat.zero_add] at F)
          all_goals
            go_wp2_with fail
            go_ret
            exact ⟨by rw [HE.out]; rfl, Hp.b (by repeat (first | (with_reducible exact H) | (with_reducible apply Hp.alloc) | (with_reducible apply Hp.set) | (with_reducible apply Hp.drew) | (with_reducible apply Hp.drewN) | (with_reducible apply Hp.bytesW) | (with_reducible exact Upd.here) | (with_reducible exact Upd.hereR) | (with_reducible apply Upd.there) | (with_reducible apply Sz.alloc) | (with_reducible apply Sz.set) | (with_reducible apply Sz.drew) | (with_reducible apply Sz.drewN) | (with_reducible apply Sz.bytesW) | (with_reducible assumption) | (with_reducible exact Sz.base _)))⟩
        | true =>
        cases g3 : inR l.vs.length 1 8 with
        | false =>
          have g4 : True := trivial
          have g5 : True := trivial
          have HN : Hid (entRise es n = false) := entRise_no hlt (by rw [hst0, g1, g2, g3]; simp)
          have HE : Hid (storeOk es = false) := by show _ = _; rw [storeOk, hn, HN.out]; simp
          clear hst0
          have HCS := Lib.hid hcs
          clear hcs
          obtain ⟨c0, c1, c2⟩ := HCS.out _ _ H
          obtain ⟨path, first, vs, va, vc⟩ := l
          dsimp only at c0 c1 c2 hls g1 g2 g3 g4 hvr g5
          have HVR := Lib.hid hvr; clear hvr
          have hbw : b < wr.heap.size := Nat.lt_of_lt_of_le hb H.b.size
          have hbe : ¬ b = wr.heap.size ∧ ¬ wr.heap.size = b := by omega
          go_wp2_with fail
          replace H := H.alloc (t := 62) (cs := [.string path, .int .i64 first, .slice va vs.length vc]) (Sz.base wr)
          clear F; have F := H.facts; simp only [Facts, NeF, box, row, reg, cellsF, ne_eq, true_and, and_true, Nat.reduceAdd, Nat.zero_add] at F
          clear F
          (refine wp_region_quiet (C := fun W => Hp w W [box wr.heap.size 62 [.string path, .int .i64 first, .slice va vs.length vc], box w.heap.size 26 [.slice (some ⟨b, off, none⟩) n c]]) (by kernel_rfl) (by kernel_rfl) (by show Hp _ (World.drew _) _; exact (by repeat (first | (with_reducible exact H) | (with_reducible apply Hp.alloc) | (with_reducible apply Hp.set) | (with_reducible apply Hp.drew) | (with_reducible apply Hp.drewN) | (with_reducible apply Hp.bytesW) | (with_reducible exact Upd.here) | (with_reducible exact Upd.hereR) | (with_reducible apply Upd.there) | (with_reducible apply Sz.alloc) | (with_reducible apply Sz.set) | (with_reducible apply Sz.drew) | (with_reducible apply Sz.drewN) | (with_reducible apply Sz.bytesW) | (with_reducible assumption) | (with_reducible exact Sz.base _)))) ?_; (repeat (first | go_big_quiet_skip | (refine BigFrame.wpQuiet_want (by rfl) (fun K hK => ?_); unfold Oper.quiet; apply Exists.intro; refine ⟨fun W hW => ?_, hK _ ?_⟩; (focus (have G := hW.facts; simp only [Facts, NeF, box, row, reg, cellsF, ne_eq, true_and, and_true, Nat.reduceAdd, Nat.zero_add] at G; have q0 := HQS.out _ _ hW; have hbw9 := Nat.lt_of_lt_of_le hb hW.b.size; go_simp; first | rfl | (go_at_call 67; refine (within_any _ _ _ _).mono ?_; rintro e w' ⟨rfl, rfl⟩; (first | rw [g2] | rw [g3]); exact ⟨rfl, hW⟩) | (go_at_call 53; refine (isPath_any path _ hls (hml.on hW.b)).mono ?_; rintro e w1 ⟨rfl, hb1⟩; rw [g1]; exact ⟨rfl, hW.step hb1⟩) | (go_at_call 68; refine (containsFuncVer_any 69 #[] badVer eg va vs.length vc vs _ (fun W x hb => isStore1_any x W) (HVR.out.grow hW.b) rfl).mono ?_; rintro e w1 ⟨rfl, hb1⟩; rw [g4]; exact ⟨rfl, hW.step hb1⟩))); clear hK K; simp only [Act.put, List.setIfInBounds_toArray, List.set_cons_zero, List.set_cons_succ]))); refine wpQuiet_nil ?_; intro wq H; have F := H.facts; simp only [Facts, NeF, box, row, reg, cellsF, ne_eq, true_and, and_true, Nat.reduceAdd, Nat.zero_add] at F)
          all_goals
            go_wp2_with fail
            go_ret
            exact ⟨by rw [HE.out]; rfl, Hp.b (by repeat (first | (with_reducible exact H) | (with_reducible apply Hp.alloc) | (with_reducible apply Hp.set) | (with_reducible apply Hp.drew) | (with_reducible apply Hp.drewN) | (with_reducible apply Hp.bytesW) | (with_reducible exact Upd.here) | (with_reducible exact Upd.hereR) | (with_reducible apply Upd.there) | (with_reducible apply Sz.alloc) | (with_reducible apply Sz.set) | (with_reducible apply Sz.drew) | (with_reducible apply Sz.drewN) | (with_reducible apply Sz.bytesW) | (with_reducible assumption) | (with_reducible exact Sz.base _)))⟩
        | true =>
        cases g4 : anyP badVer l.vs with
        | true =>
          have g5 : True := trivial
          have HN : Hid (entRise es n = false) := entRise_no hlt (by rw [hst0, g1, g2, g3, ← bad_all, g4]; simp)
          have HE : Hid (storeOk es = false) := by show _ = _; rw [storeOk, hn, HN.out]; simp
          clear hst0
          have HCS := Lib.hid hcs
          clear hcs
          obtain ⟨c0, c1, c2⟩ := HCS.out _ _ H
          obtain ⟨path, first, vs, va, vc⟩ := l
          dsimp only at c0 c1 c2 hls g1 g2 g3 g4 hvr g5
          have HVR := Lib.hid hvr; clear hvr
          have hbw : b < wr.heap.size := Nat.lt_of_lt_of_le hb H.b.size
          have hbe : ¬ b = wr.heap.size ∧ ¬ wr.heap.size = b := by omega
          go_wp2_with fail
          replace H := H.alloc (t := 62) (cs := [.string path, .int .i64 first, .slice va vs.length vc]) (Sz.base wr)
          clear F; have F := H.facts; simp only [Facts, NeF, box, row, reg, cellsF, ne_eq, true_and, and_true, Nat.reduceAdd, Nat.zero_add] at F
          clear F
          (refine wp_region_quiet (C := fun W => Hp w W [box wr.heap.size 62 [.string path, .int .i64 first, .slice va vs.length vc], box w.heap.size 26 [.slice (some ⟨b, off, none⟩) n c]]) (by kernel_rfl) (by kernel_rfl) (by show Hp _ (World.drew _) _; exact (by repeat (first | (with_reducible exact H) | (with_reducible apply Hp.alloc) | (with_reducible apply Hp.set) | (with_reducible apply Hp.drew) | (with_reducible apply Hp.drewN) | (with_reducible apply Hp.bytesW) | (with_reducible exact Upd.here) | (with_reducible exact Upd.hereR) | (with_reducible apply Upd.there) | (with_reducible apply Sz.alloc) | (with_reducible apply Sz.set) | (with_reducible apply Sz.drew) | (with_reducible apply Sz.drewN) | (with_reducible apply Sz.bytesW) | (with_reducible assumption) | (with_reducible exact Sz.base _)))) ?_; (repeat (first | go_big_quiet_skip | (refine BigFrame.wpQuiet_want (by rfl) (fun K hK => ?_); unfold Oper.quiet; apply Exists.intro; refine ⟨fun W hW => ?_, hK _ ?_⟩; (focus (have G := hW.facts; simp only [Facts, NeF, box, row, reg, cellsF, ne_eq, true_and, and_true, Nat.reduceAdd, Nat.zero_add] at G; have q0 := HQS.out _ _ hW; have hbw9 := Nat.lt_of_lt_of_le hb hW.b.size; go_simp; first | rfl | (go_at_call 67; refine (within_any _ _ _ _).mono ?_; rintro e w' ⟨rfl, rfl⟩; (first | rw [g2] | rw [g3]); exact ⟨rfl, hW⟩) | (go_at_call 53; refine (isPath_any path _ hls (hml.on hW.b)).mono ?_; rintro e w1 ⟨rfl, hb1⟩; rw [g1]; exact ⟨rfl, hW.step hb1⟩) | (go_at_call 68; refine (containsFuncVer_any 69 #[] badVer eg va vs.length vc vs _ (fun W x hb => isStore1_any x W) (HVR.out.grow hW.b) rfl).mono ?_; rintro e w1 ⟨rfl, hb1⟩; rw [g4]; exact ⟨rfl, hW.step hb1⟩))); clear hK K; simp only [Act.put, List.setIfInBounds_toArray, List.set_cons_zero, List.set_cons_succ]))); refine wpQuiet_nil ?_; intro wq H; have F := H.facts; simp only [Facts, NeF, box, row, reg, cellsF, ne_eq, true_and, and_true, Nat.reduceAdd, Nat.zero_add] at F)
          all_goals
            go_wp2_with fail
            go_ret
            exact ⟨by rw [HE.out]; rfl, Hp.b (by repeat (first | (with_reducible exact H) | (with_reducible apply Hp.alloc) | (with_reducible apply Hp.set) | (with_reducible apply Hp.drew) | (with_reducible apply Hp.drewN) | (with_reducible apply Hp.bytesW) | (with_reducible exact Upd.here) | (with_reducible exact Upd.hereR) | (with_reducible apply Upd.there) | (with_reducible apply Sz.alloc) | (with_reducible apply Sz.set) | (with_reducible apply Sz.drew) | (with_reducible apply Sz.drewN) | (with_reducible apply Sz.bytesW) | (with_reducible assumption) | (with_reducible exact Sz.base _)))⟩
        | false =>
        cases g6 : ltS q l.path with
        | false =>
          have g5 : Op.bytesLess q.toList l.path.toList = false := g6
          have HN : Hid (entRise es n = false) := entRise_no hlt (by rw [hst0, g6]; simp)
          have HE : Hid (storeOk es = false) := by show _ = _; rw [storeOk, hn, HN.out]; simp
          clear hst0
          have HCS := Lib.hid hcs
          clear hcs
          obtain ⟨c0, c1, c2⟩ := HCS.out _ _ H
          obtain ⟨path, first, vs, va, vc⟩ := l
          dsimp only at c0 c1 c2 hls g1 g2 g3 g4 hvr g5
          have HVR := Lib.hid hvr; clear hvr
          have hbw : b < wr.heap.size := Nat.lt_of_lt_of_le hb H.b.size
          have hbe : ¬ b = wr.heap.size ∧ ¬ wr.heap.size = b := by omega
          go_wp2_with fail
          replace H := H.alloc (t := 62) (cs := [.string path, .int .i64 first, .slice va vs.length vc]) (Sz.base wr)
          clear F; have F := H.facts; simp only [Facts, NeF, box, row, reg, cellsF, ne_eq, true_and, and_true, Nat.reduceAdd, Nat.zero_add] at F
          clear F
          (refine wp_region_quiet (C := fun W => Hp w W [box wr.heap.size 62 [.string path, .int .i64 first, .slice va vs.length vc], box w.heap.size 26 [.slice (some ⟨b, off, none⟩) n c]]) (by kernel_rfl) (by kernel_rfl) (by show Hp _ (World.drew _) _; exact (by repeat (first | (with_reducible exact H) | (with_reducible apply Hp.alloc) | (with_reducible apply Hp.set) | (with_reducible apply Hp.drew) | (with_reducible apply Hp.drewN) | (with_reducible apply Hp.bytesW) | (with_reducible exact Upd.here) | (with_reducible exact Upd.hereR) | (with_reducible apply Upd.there) | (with_reducible apply Sz.alloc) | (with_reducible apply Sz.set) | (with_reducible apply Sz.drew) | (with_reducible apply Sz.drewN) | (with_reducible apply Sz.bytesW) | (with_reducible assumption) | (with_reducible exact Sz.base _)))) ?_; (repeat (first | go_big_quiet_skip | (refine BigFrame.wpQuiet_want (by rfl) (fun K hK => ?_); unfold Oper.quiet; apply Exists.intro; refine ⟨fun W hW => ?_, hK _ ?_⟩; (focus (have G := hW.facts; simp only [Facts, NeF, box, row, reg, cellsF, ne_eq, true_and, and_true, Nat.reduceAdd, Nat.zero_add] at G; have q0 := HQS.out _ _ hW; have hbw9 := Nat.lt_of_lt_of_le hb hW.b.size; go_simp; first | rfl | (go_at_call 67; refine (within_any _ _ _ _).mono ?_; rintro e w' ⟨rfl, rfl⟩; (first | rw [g2] | rw [g3]); exact ⟨rfl, hW⟩) | (go_at_call 53; refine (isPath_any path _ hls (hml.on hW.b)).mono ?_; rintro e w1 ⟨rfl, hb1⟩; rw [g1]; exact ⟨rfl, hW.step hb1⟩) | (go_at_call 68; refine (containsFuncVer_any 69 #[] badVer eg va vs.length vc vs _ (fun W x hb => isStore1_any x W) (HVR.out.grow hW.b) rfl).mono ?_; rintro e w1 ⟨rfl, hb1⟩; rw [g4]; exact ⟨rfl, hW.step hb1⟩))); clear hK K; simp only [Act.put, List.setIfInBounds_toArray, List.set_cons_zero, List.set_cons_succ]))); refine wpQuiet_nil ?_; intro wq H; have F := H.facts; simp only [Facts, NeF, box, row, reg, cellsF, ne_eq, true_and, and_true, Nat.reduceAdd, Nat.zero_add] at F)
          all_goals
            go_wp2_with fail
            go_ret
            exact ⟨by rw [HE.out]; rfl, Hp.b (by repeat (first | (with_reducible exact H) | (with_reducible apply Hp.alloc) | (with_reducible apply Hp.set) | (with_reducible apply Hp.drew) | (with_reducible apply Hp.drewN) | (with_reducible apply Hp.bytesW) | (with_reducible exact Upd.here) | (with_reducible exact Upd.hereR) | (with_reducible apply Upd.there) | (with_reducible apply Sz.alloc) | (with_reducible apply Sz.set) | (with_reducible apply Sz.drew) | (with_reducible apply Sz.drewN) | (with_reducible apply Sz.bytesW) | (with_reducible assumption) | (with_reducible exact Sz.base _)))⟩
        | true =>
          have g5 : Op.bytesLess q.toList l.path.toList = true := g6
          have HN : Hid (entRise es (k + 1) = true) := entRise_snoc HR.out (by rw [hst0, g1, g2, g3, ← bad_all, g4, g6]; rfl)
          clear hst0
          have HCS := Lib.hid hcs
          clear hcs
          obtain ⟨c0, c1, c2⟩ := HCS.out _ _ H
          obtain ⟨path, first, vs, va, vc⟩ := l
          dsimp only at c0 c1 c2 hls g1 g2 g3 g4 hvr g5
          have HVR := Lib.hid hvr; clear hvr
          have hbw : b < wr.heap.size := Nat.lt_of_lt_of_le hb H.b.size
          have hbe : ¬ b = wr.heap.size ∧ ¬ wr.heap.size = b := by omega
          go_wp2_with fail
          replace H := H.alloc (t := 62) (cs := [.string path, .int .i64 first, .slice va vs.length vc]) (Sz.base wr)
          clear F; have F := H.facts; simp only [Facts, NeF, box, row, reg, cellsF, ne_eq, true_and, and_true, Nat.reduceAdd, Nat.zero_add] at F
          clear F
          (refine wp_region_quiet (C := fun W => Hp w W [box wr.heap.size 62 [.string path, .int .i64 first, .slice va vs.length vc], box w.heap.size 26 [.slice (some ⟨b, off, none⟩) n c]]) (by kernel_rfl) (by kernel_rfl) (by show Hp _ (World.drew _) _; exact (by repeat (first | (with_reducible exact H) | (with_reducible apply Hp.alloc) | (with_reducible apply Hp.set) | (with_reducible apply Hp.drew) | (with_reducible apply Hp.drewN) | (with_reducible apply Hp.bytesW) | (with_reducible exact Upd.here) | (with_reducible exact Upd.hereR) | (with_reducible apply Upd.there) | (with_reducible apply Sz.alloc) | (with_reducible apply Sz.set) | (with_reducible apply Sz.drew) | (with_reducible apply Sz.drewN) | (with_reducible apply Sz.bytesW) | (with_reducible assumption) | (with_reducible exact Sz.base _)))) ?_; (repeat (first | go_big_quiet_skip | (refine BigFrame.wpQuiet_want (by rfl) (fun K hK => ?_); unfold Oper.quiet; apply Exists.intro; refine ⟨fun W hW => ?_, hK _ ?_⟩; (focus (have G := hW.facts; simp only [Facts, NeF, box, row, reg, cellsF, ne_eq, true_and, and_true, Nat.reduceAdd, Nat.zero_add] at G; have q0 := HQS.out _ _ hW; have hbw9 := Nat.lt_of_lt_of_le hb hW.b.size; go_simp; first | rfl | (go_at_call 67; refine (within_any _ _ _ _).mono ?_; rintro e w' ⟨rfl, rfl⟩; (first | rw [g2] | rw [g3]); exact ⟨rfl, hW⟩) | (go_at_call 53; refine (isPath_any path _ hls (hml.on hW.b)).mono ?_; rintro e w1 ⟨rfl, hb1⟩; rw [g1]; exact ⟨rfl, hW.step hb1⟩) | (go_at_call 68; refine (containsFuncVer_any 69 #[] badVer eg va vs.length vc vs _ (fun W x hb => isStore1_any x W) (HVR.out.grow hW.b) rfl).mono ?_; rintro e w1 ⟨rfl, hb1⟩; rw [g4]; exact ⟨rfl, hW.step hb1⟩))); clear hK K; simp only [Act.put, List.setIfInBounds_toArray, List.set_cons_zero, List.set_cons_succ]))); refine wpQuiet_nil ?_; intro wq H; have F := H.facts; simp only [Facts, NeF, box, row, reg, cellsF, ne_eq, true_and, and_true, Nat.reduceAdd, Nat.zero_add] at F)
          all_goals
            go_wp2_with fail
            go_roundw
            case rel => exact ⟨k + 1, by omega, by go_num, HN, Lib.hid (by refine Hp.sel (by repeat (first | (with_reducible exact H) | (with_reducible apply Hp.alloc) | (with_reducible apply Hp.set) | (with_reducible apply Hp.drew) | (with_reducible apply Hp.drewN) | (with_reducible apply Hp.bytesW) | (with_reducible exact Upd.here) | (with_reducible exact Upd.hereR) | (with_reducible apply Upd.there) | (with_reducible apply Sz.alloc) | (with_reducible apply Sz.set) | (with_reducible apply Sz.drew) | (with_reducible apply Sz.drewN) | (with_reducible apply Sz.bytesW) | (with_reducible assumption) | (with_reducible exact Sz.base _))) ?_; (try simp only [List.set_cons_zero, List.set_cons_succ]); exact (by repeat (first | (with_reducible exact Sel.nil) | (with_reducible apply Sel.cons) | (with_reducible exact Del.here) | (with_reducible apply Del.there))))⟩
            case measure => simp [intOf]; omega
    · have HF : Hid (entRise es es.length = true) := by rw [hn, show n = k by omega]; exact HR
      have HE : Hid (storeOk es = decide (n ≤ 60)) := by show _ = _; rw [storeOk, HF.out, hn]; simp
      have hd6 : decide ((n : Int) ≤ 60) = decide (n ≤ 60) := decide_eq_decide.2 (by omega)
      go_wp2_with fail
      go_ret
      exact ⟨by rw [HE.out, ← hd6]; rfl, H.b⟩
end Go.Proofs.YtklmcbabpncfmaaDoor

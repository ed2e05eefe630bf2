/- Stores: which are valid: the reference's. No condition. -/
import Derived.Test.YtklmcbabpncfmaaDoorStoreP
import Derived.Deep.RegionHeld3
namespace Go.Proofs.YtklmcbabpncfmaaDoor
open Go.RowKit
set_option linter.unusedVariables false
set_option linter.unusedSimpArgs false
theorem Rd.atV {α : Type} {enc : α → List Value} {m : Nat} {w : World} {A : Option Addr} {n c : Nat} {us : List α} (hr : Rd w w.heap.size m A n c (us.flatMap enc)) (hn : us.length = n) (hl : ∀ x, (enc x).length = m) (h0 : 0 < n) : ∃ b off, A = some ⟨b, off, none⟩ ∧ b < w.heap.size := by
  obtain ⟨b, off, h1, h2, _⟩ := hr.elem hl hn (i := 0) h0
  exact ⟨b, off, h1, h2⟩
theorem Rd.verAt {w : World} {A : Option Addr} {n c : Nat} {us : List Ver} (hr : Rd w w.heap.size 4 A n c (us.flatMap encVer)) (hn : us.length = n) {k : Nat} (hk : k < us.length) {b off : Nat} (hA : A = some ⟨b, off, none⟩) (W : World) (hb : Below w.heap.size w W) :
    W.cell? ⟨b, off + k * 4, none⟩ = some (.slice us[k].da us[k].data.length us[k].dc) ∧ W.cell? ⟨b, off + k * 4 + 1, none⟩ = some (.int .i64 us[k].made) ∧ W.cell? ⟨b, off + k * 4 + 2, none⟩ = some (.bool us[k].gone) ∧ W.cell? ⟨b, off + k * 4 + 3, none⟩ = some (.bool us[k].dead) := by
  obtain ⟨b', off', hA', hb', hcell⟩ := hr.elem encVer_len hn (i := k) (by omega)
  obtain ⟨rfl, rfl⟩ : b = b' ∧ off = off' := by rw [hA] at hA'; simpa using hA'
  exact ⟨(hb.cell (p := ⟨b, off + k * 4, none⟩) hb').trans (by have := hcell 0 _ rfl; simpa using this), (hb.cell (p := ⟨b, off + k * 4 + 1, none⟩) hb').trans (hcell 1 _ rfl), (hb.cell (p := ⟨b, off + k * 4 + 2, none⟩) hb').trans (hcell 2 _ rfl), (hb.cell (p := ⟨b, off + k * 4 + 3, none⟩) hb').trans (hcell 3 _ rfl)⟩
theorem Rd.entAt {w : World} {A : Option Addr} {n c : Nat} {us : List Entry} (hr : Rd w w.heap.size 3 A n c (us.flatMap encEntry)) (hn : us.length = n) {k : Nat} (hk : k < us.length) {b off : Nat} (hA : A = some ⟨b, off, none⟩) (W : World) (hb : Below w.heap.size w W) :
    W.cell? ⟨b, off + k * 3, none⟩ = some (.string us[k].path) ∧ W.cell? ⟨b, off + k * 3 + 1, none⟩ = some (.int .i64 us[k].first) ∧ W.cell? ⟨b, off + k * 3 + 2, none⟩ = some (.slice us[k].va us[k].vs.length us[k].vc) := by
  obtain ⟨b', off', hA', hb', hcell⟩ := hr.elem encEntry_len hn (i := k) (by omega)
  obtain ⟨rfl, rfl⟩ : b = b' ∧ off = off' := by rw [hA] at hA'; simpa using hA'
  exact ⟨(hb.cell (p := ⟨b, off + k * 3, none⟩) hb').trans (by have := hcell 0 _ rfl; simpa using this), (hb.cell (p := ⟨b, off + k * 3 + 1, none⟩) hb').trans (hcell 1 _ rfl), (hb.cell (p := ⟨b, off + k * 3 + 2, none⟩) hb').trans (hcell 2 _ rfl)⟩
set_option maxHeartbeats 32000000 in
set_option maxRecDepth 10000 in
theorem specStoreOk_any (A : Option Addr) (n c : Nat) (es : List Entry) (w : World) (hr : Rd w w.heap.size 3 A n c (es.flatMap encEntry)) (hn : es.length = n) (hsz : ∀ u ∈ es, u.path.size ≤ maxLen) (hd : ∀ u ∈ es, DE 0 w u) :
    Calls Tryd.prog 35 #[.agg #[.slice A n c]] w fun e w' => e = .returned (.bool (storeOk es)) ∧ Below w.heap.size w w' := by
  have hc := hr.2.1
  have hm := hr.2.2.1
  unfold maxLen at hm
  have H := Hp.nil w
  by_cases h60 : ¬ n ≤ 60
  · have HR : Hid (storeOk es = false) := by show _ = _; simp [storeOk, hn, h60]
    go_enter Tryd.func35, Tryd.ntmps35
    go_wp2_with fail
    go_ret
    exact ⟨by rw [HR.out]; rfl, Hp.b (by repeat (first | (with_reducible exact H) | (with_reducible apply Hp.alloc) | (with_reducible apply Hp.set) | (with_reducible apply Hp.drew) | (with_reducible apply Hp.drewN) | (with_reducible apply Hp.bytesW) | (with_reducible exact Upd.here) | (with_reducible exact Upd.hereR) | (with_reducible apply Upd.there) | (with_reducible apply Sz.alloc) | (with_reducible apply Sz.set) | (with_reducible apply Sz.drew) | (with_reducible apply Sz.drewN) | (with_reducible apply Sz.bytesW) | (with_reducible assumption) | (with_reducible exact Sz.base _)))⟩
  replace h60 : n ≤ 60 := by omega
  have HE : Hid (storeOk es = entRise es n) := by show _ = _; simp [storeOk, hn, h60]
  go_enter Tryd.func35, Tryd.ntmps35
  go_wp2_with fail
  have HH := Lib.hid H; clear H
  go_loopw [3] (fun i wr => ∃ k : Nat, k ≤ n ∧ i = .int .i64 k ∧ Hid (entRise es k = true) ∧ Hid (Hp w wr [box w.heap.size 26 [.slice A n c]])) (fun i _ => n - (intOf i).toNat)
  case atStart =>
    have H := HH.out
    exact ⟨0, Nat.zero_le _, rfl, rfl, Lib.hid (by repeat (first | (with_reducible exact H) | (with_reducible apply Hp.alloc) | (with_reducible apply Hp.set) | (with_reducible apply Hp.drew) | (with_reducible apply Hp.drewN) | (with_reducible apply Hp.bytesW) | (with_reducible exact Upd.here) | (with_reducible exact Upd.hereR) | (with_reducible apply Upd.there) | (with_reducible apply Sz.alloc) | (with_reducible apply Sz.set) | (with_reducible apply Sz.drew) | (with_reducible apply Sz.drewN) | (with_reducible apply Sz.bytesW) | (with_reducible assumption) | (with_reducible exact Sz.base _)))⟩
  case round =>
    clear HH
    obtain ⟨k, hk, rfl, HR, HP⟩ := hrel
    have H := HP.out
    have F := H.facts; simp only [Facts, NeF, box, row, reg, cellsF, ne_eq, true_and, and_true, Nat.reduceAdd, Nat.zero_add] at F
    by_cases hlt : k < n
    · obtain ⟨b, off, rfl, hb⟩ := Rd.atV (enc := encEntry) hr hn encEntry_len (by omega)
      have hcs : ∀ (W : World) (L : List Ent), Hp w W L → _ := fun W L h => Rd.entAt hr hn (k := k) (by omega) rfl W h.b
      have hls : (es[k]'(by omega)).path.size ≤ maxLen := hsz _ (List.getElem_mem _)
      have hdr : DE 0 w (es[k]'(by omega)) := hd _ (List.getElem_mem _)
      have hst : entStep es k = (entOk (es[k]'(by omega)) && (decide (k = 0) || ltS ((es[k - 1]?.map (·.path)).getD ByteArray.empty) (es[k]'(by omega)).path)) := by
        unfold entStep; rw [List.getElem?_eq_getElem (by omega : k < es.length)]
      have hk1 : (k : Int) < (n : Int) := by omega
      have hk0 : (0 : Int) ≤ (k : Int) := by omega
      by_cases hkz : k = 0
      · have hk2 : decide ((0 : Int) < (k : Int)) = false := by simp; omega
        have hk2n : decide (0 < k) = false := by simp; omega
        have hst0 : entStep es k = (pathF (es[k]'(by omega)).path && (inR (es[k]'(by omega)).first 1 1000000 && (inR (es[k]'(by omega)).vs.length 1 8 && (es[k]'(by omega)).vs.all verOk))) := by rw [hst]; simp [hkz, entOk]
        clear hst
        generalize (es[k]'(by omega)) = l at *
        clear hkz
        cases g1 : pathF l.path with
        | false =>
          have g2 : True := trivial
          have g3 : True := trivial
          have HN : Hid (entRise es n = false) := entRise_no hlt (by rw [hst0, g1]; rfl)
          clear hst0
          have HCS := Lib.hid hcs
          clear hcs
          obtain ⟨c0, c1, c2⟩ := HCS.out _ _ H
          obtain ⟨path, first, vs, va, vc⟩ := l
          dsimp only at c0 c1 c2 hls g1 g2 g3
          have hbw : b < wr.heap.size := Nat.lt_of_lt_of_le hb H.b.size
          have hbe : ¬ b = wr.heap.size ∧ ¬ wr.heap.size = b := by omega
          go_wp2_with fail
          replace H := H.alloc (t := 62) (cs := [.string path, .int .i64 first, .slice va vs.length vc]) (Sz.base wr)
          clear F; have F := H.facts; simp only [Facts, NeF, box, row, reg, cellsF, ne_eq, true_and, and_true, Nat.reduceAdd, Nat.zero_add] at F
          clear F
          (refine wp_region_quiet (C := fun W => Hp w W [box wr.heap.size 62 [.string path, .int .i64 first, .slice va vs.length vc], box w.heap.size 26 [.slice (some ⟨b, off, none⟩) n c]]) (by kernel_rfl) (by kernel_rfl) (by show Hp _ (World.drew _) _; exact (by repeat (first | (with_reducible exact H) | (with_reducible apply Hp.alloc) | (with_reducible apply Hp.set) | (with_reducible apply Hp.drew) | (with_reducible apply Hp.drewN) | (with_reducible apply Hp.bytesW) | (with_reducible exact Upd.here) | (with_reducible exact Upd.hereR) | (with_reducible apply Upd.there) | (with_reducible apply Sz.alloc) | (with_reducible apply Sz.set) | (with_reducible apply Sz.drew) | (with_reducible apply Sz.drewN) | (with_reducible apply Sz.bytesW) | (with_reducible assumption) | (with_reducible exact Sz.base _)))) ?_; (repeat (first | go_big_quiet_skip | (refine BigFrame.wpQuiet_want (by rfl) (fun K hK => ?_); unfold Oper.quiet; apply Exists.intro; refine ⟨fun W hW => ?_, hK _ ?_⟩; (focus (have G := hW.facts; simp only [Facts, NeF, box, row, reg, cellsF, ne_eq, true_and, and_true, Nat.reduceAdd, Nat.zero_add] at G; skip; go_simp; first | rfl | (go_at_call 37; refine (l01In_any _ _ _ _).mono ?_; rintro e w' ⟨rfl, rfl⟩; (first | rw [g2] | rw [g3]); exact ⟨rfl, hW⟩) | (go_at_call 36; refine (PathOk_any path _ hls).mono ?_; rintro e w1 ⟨rfl, hb1⟩; rw [g1]; exact ⟨rfl, hW.step hb1⟩))); clear hK K; simp only [Act.put, List.setIfInBounds_toArray, List.set_cons_zero, List.set_cons_succ]))); refine wpQuiet_nil ?_; intro wq H; have F := H.facts; simp only [Facts, NeF, box, row, reg, cellsF, ne_eq, true_and, and_true, Nat.reduceAdd, Nat.zero_add] at F)
          all_goals
            go_wp2_with fail
            go_ret
            exact ⟨by rw [HE.out, HN.out]; rfl, Hp.b (by repeat (first | (with_reducible exact H) | (with_reducible apply Hp.alloc) | (with_reducible apply Hp.set) | (with_reducible apply Hp.drew) | (with_reducible apply Hp.drewN) | (with_reducible apply Hp.bytesW) | (with_reducible exact Upd.here) | (with_reducible exact Upd.hereR) | (with_reducible apply Upd.there) | (with_reducible apply Sz.alloc) | (with_reducible apply Sz.set) | (with_reducible apply Sz.drew) | (with_reducible apply Sz.drewN) | (with_reducible apply Sz.bytesW) | (with_reducible assumption) | (with_reducible exact Sz.base _)))⟩
        | true =>
        cases g2 : inR l.first 1 1000000 with
        | false =>
          have g3 : True := trivial
          have HN : Hid (entRise es n = false) := entRise_no hlt (by rw [hst0, g1, g2]; rfl)
          clear hst0
          have HCS := Lib.hid hcs
          clear hcs
          obtain ⟨c0, c1, c2⟩ := HCS.out _ _ H
          obtain ⟨path, first, vs, va, vc⟩ := l
          dsimp only at c0 c1 c2 hls g1 g2 g3
          have hbw : b < wr.heap.size := Nat.lt_of_lt_of_le hb H.b.size
          have hbe : ¬ b = wr.heap.size ∧ ¬ wr.heap.size = b := by omega
          go_wp2_with fail
          replace H := H.alloc (t := 62) (cs := [.string path, .int .i64 first, .slice va vs.length vc]) (Sz.base wr)
          clear F; have F := H.facts; simp only [Facts, NeF, box, row, reg, cellsF, ne_eq, true_and, and_true, Nat.reduceAdd, Nat.zero_add] at F
          clear F
          (refine wp_region_quiet (C := fun W => Hp w W [box wr.heap.size 62 [.string path, .int .i64 first, .slice va vs.length vc], box w.heap.size 26 [.slice (some ⟨b, off, none⟩) n c]]) (by kernel_rfl) (by kernel_rfl) (by show Hp _ (World.drew _) _; exact (by repeat (first | (with_reducible exact H) | (with_reducible apply Hp.alloc) | (with_reducible apply Hp.set) | (with_reducible apply Hp.drew) | (with_reducible apply Hp.drewN) | (with_reducible apply Hp.bytesW) | (with_reducible exact Upd.here) | (with_reducible exact Upd.hereR) | (with_reducible apply Upd.there) | (with_reducible apply Sz.alloc) | (with_reducible apply Sz.set) | (with_reducible apply Sz.drew) | (with_reducible apply Sz.drewN) | (with_reducible apply Sz.bytesW) | (with_reducible assumption) | (with_reducible exact Sz.base _)))) ?_; (repeat (first | go_big_quiet_skip | (refine BigFrame.wpQuiet_want (by rfl) (fun K hK => ?_); unfold Oper.quiet; apply Exists.intro; refine ⟨fun W hW => ?_, hK _ ?_⟩; (focus (have G := hW.facts; simp only [Facts, NeF, box, row, reg, cellsF, ne_eq, true_and, and_true, Nat.reduceAdd, Nat.zero_add] at G; skip; go_simp; first | rfl | (go_at_call 37; refine (l01In_any _ _ _ _).mono ?_; rintro e w' ⟨rfl, rfl⟩; (first | rw [g2] | rw [g3]); exact ⟨rfl, hW⟩) | (go_at_call 36; refine (PathOk_any path _ hls).mono ?_; rintro e w1 ⟨rfl, hb1⟩; rw [g1]; exact ⟨rfl, hW.step hb1⟩))); clear hK K; simp only [Act.put, List.setIfInBounds_toArray, List.set_cons_zero, List.set_cons_succ]))); refine wpQuiet_nil ?_; intro wq H; have F := H.facts; simp only [Facts, NeF, box, row, reg, cellsF, ne_eq, true_and, and_true, Nat.reduceAdd, Nat.zero_add] at F)
          all_goals
            go_wp2_with fail
            go_ret
            exact ⟨by rw [HE.out, HN.out]; rfl, Hp.b (by repeat (first | (with_reducible exact H) | (with_reducible apply Hp.alloc) | (with_reducible apply Hp.set) | (with_reducible apply Hp.drew) | (with_reducible apply Hp.drewN) | (with_reducible apply Hp.bytesW) | (with_reducible exact Upd.here) | (with_reducible exact Upd.hereR) | (with_reducible apply Upd.there) | (with_reducible apply Sz.alloc) | (with_reducible apply Sz.set) | (with_reducible apply Sz.drew) | (with_reducible apply Sz.drewN) | (with_reducible apply Sz.bytesW) | (with_reducible assumption) | (with_reducible exact Sz.base _)))⟩
        | true =>
        cases g3 : inR l.vs.length 1 8 with
        | false =>
          have HN : Hid (entRise es n = false) := entRise_no hlt (by rw [hst0, g1, g2, g3]; rfl)
          clear hst0
          have HCS := Lib.hid hcs
          clear hcs
          obtain ⟨c0, c1, c2⟩ := HCS.out _ _ H
          obtain ⟨path, first, vs, va, vc⟩ := l
          dsimp only at c0 c1 c2 hls g1 g2 g3
          have hbw : b < wr.heap.size := Nat.lt_of_lt_of_le hb H.b.size
          have hbe : ¬ b = wr.heap.size ∧ ¬ wr.heap.size = b := by omega
          go_wp2_with fail
          replace H := H.alloc (t := 62) (cs := [.string path, .int .i64 first, .slice va vs.length vc]) (Sz.base wr)
          clear F; have F := H.facts; simp only [Facts, NeF, box, row, reg, cellsF, ne_eq, true_and, and_true, Nat.reduceAdd, Nat.zero_add] at F
          clear F
          (refine wp_region_quiet (C := fun W => Hp w W [box wr.heap.size 62 [.string path, .int .i64 first, .slice va vs.length vc], box w.heap.size 26 [.slice (some ⟨b, off, none⟩) n c]]) (by kernel_rfl) (by kernel_rfl) (by show Hp _ (World.drew _) _; exact (by repeat (first | (with_reducible exact H) | (with_reducible apply Hp.alloc) | (with_reducible apply Hp.set) | (with_reducible apply Hp.drew) | (with_reducible apply Hp.drewN) | (with_reducible apply Hp.bytesW) | (with_reducible exact Upd.here) | (with_reducible exact Upd.hereR) | (with_reducible apply Upd.there) | (with_reducible apply Sz.alloc) | (with_reducible apply Sz.set) | (with_reducible apply Sz.drew) | (with_reducible apply Sz.drewN) | (with_reducible apply Sz.bytesW) | (with_reducible assumption) | (with_reducible exact Sz.base _)))) ?_; (repeat (first | go_big_quiet_skip | (refine BigFrame.wpQuiet_want (by rfl) (fun K hK => ?_); unfold Oper.quiet; apply Exists.intro; refine ⟨fun W hW => ?_, hK _ ?_⟩; (focus (have G := hW.facts; simp only [Facts, NeF, box, row, reg, cellsF, ne_eq, true_and, and_true, Nat.reduceAdd, Nat.zero_add] at G; skip; go_simp; first | rfl | (go_at_call 37; refine (l01In_any _ _ _ _).mono ?_; rintro e w' ⟨rfl, rfl⟩; (first | rw [g2] | rw [g3]); exact ⟨rfl, hW⟩) | (go_at_call 36; refine (PathOk_any path _ hls).mono ?_; rintro e w1 ⟨rfl, hb1⟩; rw [g1]; exact ⟨rfl, hW.step hb1⟩))); clear hK K; simp only [Act.put, List.setIfInBounds_toArray, List.set_cons_zero, List.set_cons_succ]))); refine wpQuiet_nil ?_; intro wq H; have F := H.facts; simp only [Facts, NeF, box, row, reg, cellsF, ne_eq, true_and, and_true, Nat.reduceAdd, Nat.zero_add] at F)
          all_goals
            go_wp2_with fail
            go_ret
            exact ⟨by rw [HE.out, HN.out]; rfl, Hp.b (by repeat (first | (with_reducible exact H) | (with_reducible apply Hp.alloc) | (with_reducible apply Hp.set) | (with_reducible apply Hp.drew) | (with_reducible apply Hp.drewN) | (with_reducible apply Hp.bytesW) | (with_reducible exact Upd.here) | (with_reducible exact Upd.hereR) | (with_reducible apply Upd.there) | (with_reducible apply Sz.alloc) | (with_reducible apply Sz.set) | (with_reducible apply Sz.drew) | (with_reducible apply Sz.drewN) | (with_reducible apply Sz.bytesW) | (with_reducible assumption) | (with_reducible exact Sz.base _)))⟩
        | true =>
          have HBAD : Hid (l.vs.all verOk = false → entRise es n = false) := fun h => entRise_no hlt (by rw [hst0, g1, g2, g3, h]; simp)
          have HGOOD : Hid (l.vs.all verOk = true → entRise es (k + 1) = true) := fun h => entRise_snoc HR.out (by rw [hst0, g1, g2, g3, h]; rfl)
          clear hst0
          have hvr := hdr.1.1
          clear hdr
          have HCS := Lib.hid hcs
          clear hcs
          obtain ⟨c0, c1, c2⟩ := HCS.out _ _ H
          obtain ⟨path, first, vs, va, vc⟩ := l
          dsimp only at c0 c1 c2 hls g1 g2 g3
          have hbw : b < wr.heap.size := Nat.lt_of_lt_of_le hb H.b.size
          have hbe : ¬ b = wr.heap.size ∧ ¬ wr.heap.size = b := by omega
          go_wp2_with fail
          replace H := H.alloc (t := 62) (cs := [.string path, .int .i64 first, .slice va vs.length vc]) (Sz.base wr)
          clear F; have F := H.facts; simp only [Facts, NeF, box, row, reg, cellsF, ne_eq, true_and, and_true, Nat.reduceAdd, Nat.zero_add] at F
          clear F
          (try dsimp only at hvr HBAD HGOOD)
          (refine wp_region_quiet (C := fun W => Hp w W [box wr.heap.size 62 [.string path, .int .i64 first, .slice va vs.length vc], box w.heap.size 26 [.slice (some ⟨b, off, none⟩) n c]]) (by kernel_rfl) (by kernel_rfl) (by show Hp _ (World.drew _) _; exact (by repeat (first | (with_reducible exact H) | (with_reducible apply Hp.alloc) | (with_reducible apply Hp.set) | (with_reducible apply Hp.drew) | (with_reducible apply Hp.drewN) | (with_reducible apply Hp.bytesW) | (with_reducible exact Upd.here) | (with_reducible exact Upd.hereR) | (with_reducible apply Upd.there) | (with_reducible apply Sz.alloc) | (with_reducible apply Sz.set) | (with_reducible apply Sz.drew) | (with_reducible apply Sz.drewN) | (with_reducible apply Sz.bytesW) | (with_reducible assumption) | (with_reducible exact Sz.base _)))) ?_; (repeat (first | go_big_quiet_skip | (refine BigFrame.wpQuiet_want (by rfl) (fun K hK => ?_); unfold Oper.quiet; apply Exists.intro; refine ⟨fun W hW => ?_, hK _ ?_⟩; (focus (have G := hW.facts; simp only [Facts, NeF, box, row, reg, cellsF, ne_eq, true_and, and_true, Nat.reduceAdd, Nat.zero_add] at G; skip; go_simp; first | rfl | (go_at_call 37; refine (l01In_any _ _ _ _).mono ?_; rintro e w' ⟨rfl, rfl⟩; (first | rw [g2] | rw [g3]); exact ⟨rfl, hW⟩) | (go_at_call 36; refine (PathOk_any path _ hls).mono ?_; rintro e w1 ⟨rfl, hb1⟩; rw [g1]; exact ⟨rfl, hW.step hb1⟩))); clear hK K; simp only [Act.put, List.setIfInBounds_toArray, List.set_cons_zero, List.set_cons_succ]))); refine wpQuiet_nil ?_; intro wq H; have F := H.facts; simp only [Facts, NeF, box, row, reg, cellsF, ne_eq, true_and, and_true, Nat.reduceAdd, Nat.zero_add] at F)
          all_goals
            go_wp2_with fail
            clear F
            have hv8 : vs.length ≤ 8 := by have h9 := (inR_true.1 g3).2; omega
            generalize hB4 : wr.heap.size = b4 at *
            clear hB4
            have HH := Lib.hid H; clear H
            go_loopw [5] (fun i wi => ∃ j : Nat, j ≤ vs.length ∧ i = .int .i64 j ∧ Hid ((vs.take j).all verOk = true) ∧ Hid (Hp w wi [box b4 62 [.string path, .int .i64 first, .slice va vs.length vc], box w.heap.size 26 [.slice (some ⟨b, off, none⟩) n c]])) (fun i _ => vs.length - (intOf i).toNat)
            case atStart =>
              have H := HH.out
              exact ⟨0, Nat.zero_le _, rfl, by show _ = _; simp, Lib.hid (by refine Hp.sel (by repeat (first | (with_reducible exact H) | (with_reducible apply Hp.alloc) | (with_reducible apply Hp.set) | (with_reducible apply Hp.drew) | (with_reducible apply Hp.drewN) | (with_reducible apply Hp.bytesW) | (with_reducible exact Upd.here) | (with_reducible exact Upd.hereR) | (with_reducible apply Upd.there) | (with_reducible apply Sz.alloc) | (with_reducible apply Sz.set) | (with_reducible apply Sz.drew) | (with_reducible apply Sz.drewN) | (with_reducible apply Sz.bytesW) | (with_reducible assumption) | (with_reducible exact Sz.base _))) ?_; (try simp only [List.set_cons_zero, List.set_cons_succ]); exact (by repeat (first | (with_reducible exact Sel.nil) | (with_reducible apply Sel.cons) | (with_reducible exact Del.here) | (with_reducible apply Del.there))))⟩
            case round =>
              clear HH
              obtain ⟨wi, hwi⟩ : ∃ x, x = wr := ⟨_, rfl⟩
              subst hwi
              obtain ⟨j, hj, rfl, HAJ, HP2⟩ := hrel
              have H := HP2.out
              have F := H.facts; simp only [Facts, NeF, box, row, reg, cellsF, ne_eq, true_and, and_true, Nat.reduceAdd, Nat.zero_add] at F
              by_cases hjl : j < vs.length
              · skip
                obtain ⟨b2, off2, rfl, hb2⟩ := Rd.atV (enc := encVer) hvr rfl encVer_len (by omega)
                have hvs : ∀ (W : World) (L : List Ent), Hp w W L → _ := fun W L h => Rd.verAt hvr rfl (k := j) hjl rfl W h.b
                have HVS := Lib.hid hvs; clear hvs
                obtain ⟨d0, d1, d2, d3⟩ := HVS.out _ _ H
                have hj1 : (j : Int) < (vs.length : Int) := by omega
                have hj0 : (0 : Int) ≤ (j : Int) := by omega
                have hbw2 : b2 < wi.heap.size := Nat.lt_of_lt_of_le hb2 H.b.size
                have hbe2 : ¬ b2 = wi.heap.size ∧ ¬ wi.heap.size = b2 := by omega
                have HJ1 : Hid (j + 1 ≤ vs.length ∧ vs.length - (j + 1) < vs.length - j) := ⟨by omega, by omega⟩
                have hvj : (vs.take (j + 1)).all verOk = ((vs.take j).all verOk && verOk vs[j]) := by rw [List.take_succ_eq_append_getElem hjl, List.all_append]; simp
                have HVJ := Lib.hid hvj; clear hvj
                have HMJ : Hid (verOk vs[j] = false → vs.all verOk = false) := fun h => by rw [List.all_eq_false]; exact ⟨_, List.getElem_mem hjl, by simp [h]⟩
                generalize vs[j] = v at *
                obtain ⟨data, da, dc, made, gone, dead⟩ := v
                dsimp only at d0 d1 d2 d3
                by_cases a1 : data.length ≤ 300
                rotate_left
                · have a1i : (300 : Int) < (data.length : Int) := by omega
                  have a1b : decide ((300 : Int) < (data.length : Int)) = true := decide_eq_true a1i
                  have a2 : True := trivial
                  have HB : Hid (entRise es n = false) := by
                    have h9 : verOk ⟨data, da, dc, made, gone, dead⟩ = false := by simp [verOk, a1]
                    exact HBAD.out (HMJ.out h9)
                  clear HVJ HMJ
                  go_wp2_with (go_at_call 37; refine (l01In_any _ _ _ _).mono ?_; rintro e w' ⟨rfl, rfl⟩; rw [a2])
                  go_ret
                  exact ⟨by rw [HE.out, HB.out]; rfl, Hp.b (by repeat (first | (with_reducible exact H) | (with_reducible apply Hp.alloc) | (with_reducible apply Hp.set) | (with_reducible apply Hp.drew) | (with_reducible apply Hp.drewN) | (with_reducible apply Hp.bytesW) | (with_reducible exact Upd.here) | (with_reducible exact Upd.hereR) | (with_reducible apply Upd.there) | (with_reducible apply Sz.alloc) | (with_reducible apply Sz.set) | (with_reducible apply Sz.drew) | (with_reducible apply Sz.drewN) | (with_reducible apply Sz.bytesW) | (with_reducible assumption) | (with_reducible exact Sz.base _)))⟩
                have a1i : ¬ (300 : Int) < (data.length : Int) := by omega
                have a1b : decide ((300 : Int) < (data.length : Int)) = false := decide_eq_false a1i
                cases a2 : inR made 0 1000000000 with
                | false =>
                  have HB : Hid (entRise es n = false) := by
                    have h9 : verOk ⟨data, da, dc, made, gone, dead⟩ = false := by simp [verOk, a2]
                    exact HBAD.out (HMJ.out h9)
                  clear HVJ HMJ
                  go_wp2_with (go_at_call 37; refine (l01In_any _ _ _ _).mono ?_; rintro e w' ⟨rfl, rfl⟩; rw [a2])
                  go_ret
                  exact ⟨by rw [HE.out, HB.out]; rfl, Hp.b (by repeat (first | (with_reducible exact H) | (with_reducible apply Hp.alloc) | (with_reducible apply Hp.set) | (with_reducible apply Hp.drew) | (with_reducible apply Hp.drewN) | (with_reducible apply Hp.bytesW) | (with_reducible exact Upd.here) | (with_reducible exact Upd.hereR) | (with_reducible apply Upd.there) | (with_reducible apply Sz.alloc) | (with_reducible apply Sz.set) | (with_reducible apply Sz.drew) | (with_reducible apply Sz.drewN) | (with_reducible apply Sz.bytesW) | (with_reducible assumption) | (with_reducible exact Sz.base _)))⟩
                | true =>
                cases dead with
                | false =>
                  have HG : Hid ((vs.take (j + 1)).all verOk = true) := by
                    have h9 : verOk ⟨data, da, dc, made, gone, false⟩ = true := by simp [verOk, a1, a2]
                    show _ = _; rw [HVJ.out, h9, HAJ.out]; rfl
                  clear HVJ HMJ
                  go_wp2_with (go_at_call 37; refine (l01In_any _ _ _ _).mono ?_; rintro e w' ⟨rfl, rfl⟩; rw [a2])
                  go_roundw
                  case rel => exact ⟨j + 1, HJ1.out.1, by go_num, HG, Lib.hid (by refine Hp.sel (by repeat (first | (with_reducible exact H) | (with_reducible apply Hp.alloc) | (with_reducible apply Hp.set) | (with_reducible apply Hp.drew) | (with_reducible apply Hp.drewN) | (with_reducible apply Hp.bytesW) | (with_reducible exact Upd.here) | (with_reducible exact Upd.hereR) | (with_reducible apply Upd.there) | (with_reducible apply Sz.alloc) | (with_reducible apply Sz.set) | (with_reducible apply Sz.drew) | (with_reducible apply Sz.drewN) | (with_reducible apply Sz.bytesW) | (with_reducible assumption) | (with_reducible exact Sz.base _))) ?_; (try simp only [List.set_cons_zero, List.set_cons_succ]); exact (by repeat (first | (with_reducible exact Sel.nil) | (with_reducible apply Sel.cons) | (with_reducible exact Del.here) | (with_reducible apply Del.there))))⟩
                  case measure => have := HJ1.out.2; simp [intOf]; omega
                | true =>
                cases gone with
                | true =>
                  have HB : Hid (entRise es n = false) := by
                    have h9 : verOk ⟨data, da, dc, made, true, true⟩ = false := by simp [verOk]
                    exact HBAD.out (HMJ.out h9)
                  clear HVJ HMJ
                  go_wp2_with (go_at_call 37; refine (l01In_any _ _ _ _).mono ?_; rintro e w' ⟨rfl, rfl⟩; rw [a2])
                  go_ret
                  exact ⟨by rw [HE.out, HB.out]; rfl, Hp.b (by repeat (first | (with_reducible exact H) | (with_reducible apply Hp.alloc) | (with_reducible apply Hp.set) | (with_reducible apply Hp.drew) | (with_reducible apply Hp.drewN) | (with_reducible apply Hp.bytesW) | (with_reducible exact Upd.here) | (with_reducible exact Upd.hereR) | (with_reducible apply Upd.there) | (with_reducible apply Sz.alloc) | (with_reducible apply Sz.set) | (with_reducible apply Sz.drew) | (with_reducible apply Sz.drewN) | (with_reducible apply Sz.bytesW) | (with_reducible assumption) | (with_reducible exact Sz.base _)))⟩
                | false =>
                by_cases a3 : data.length = 0
                · have a3i : ¬ (0 : Int) < (data.length : Int) := by omega
                  have a3b : decide ((0 : Int) < (data.length : Int)) = false := decide_eq_false a3i
                  have a3n : decide (0 < data.length) = false := decide_eq_false (by omega)
                  have A3 := Lib.hid a3
                  clear a3
                  have HG : Hid ((vs.take (j + 1)).all verOk = true) := by
                    have h9 : verOk ⟨data, da, dc, made, false, true⟩ = true := by simp [verOk, a1, a2, A3.out]
                    show _ = _; rw [HVJ.out, h9, HAJ.out]; rfl
                  clear HVJ HMJ
                  go_wp2_with (go_at_call 37; refine (l01In_any _ _ _ _).mono ?_; rintro e w' ⟨rfl, rfl⟩; rw [a2])
                  go_roundw
                  case rel => exact ⟨j + 1, HJ1.out.1, by go_num, HG, Lib.hid (by refine Hp.sel (by repeat (first | (with_reducible exact H) | (with_reducible apply Hp.alloc) | (with_reducible apply Hp.set) | (with_reducible apply Hp.drew) | (with_reducible apply Hp.drewN) | (with_reducible apply Hp.bytesW) | (with_reducible exact Upd.here) | (with_reducible exact Upd.hereR) | (with_reducible apply Upd.there) | (with_reducible apply Sz.alloc) | (with_reducible apply Sz.set) | (with_reducible apply Sz.drew) | (with_reducible apply Sz.drewN) | (with_reducible apply Sz.bytesW) | (with_reducible assumption) | (with_reducible exact Sz.base _))) ?_; (try simp only [List.set_cons_zero, List.set_cons_succ]); exact (by repeat (first | (with_reducible exact Sel.nil) | (with_reducible apply Sel.cons) | (with_reducible exact Del.here) | (with_reducible apply Del.there))))⟩
                  case measure => have := HJ1.out.2; simp [intOf]; omega
                · have a3i : (0 : Int) < (data.length : Int) := by omega
                  have a3b : decide ((0 : Int) < (data.length : Int)) = true := decide_eq_true a3i
                  have a3n : decide (0 < data.length) = true := decide_eq_true (by omega)
                  have HB : Hid (entRise es n = false) := by
                    have h9 : verOk ⟨data, da, dc, made, false, true⟩ = false := by simp [verOk, a3]
                    exact HBAD.out (HMJ.out h9)
                  clear HVJ HMJ
                  go_wp2_with (go_at_call 37; refine (l01In_any _ _ _ _).mono ?_; rintro e w' ⟨rfl, rfl⟩; rw [a2])
                  go_ret
                  exact ⟨by rw [HE.out, HB.out]; rfl, Hp.b (by repeat (first | (with_reducible exact H) | (with_reducible apply Hp.alloc) | (with_reducible apply Hp.set) | (with_reducible apply Hp.drew) | (with_reducible apply Hp.drewN) | (with_reducible apply Hp.bytesW) | (with_reducible exact Upd.here) | (with_reducible exact Upd.hereR) | (with_reducible apply Upd.there) | (with_reducible apply Sz.alloc) | (with_reducible apply Sz.set) | (with_reducible apply Sz.drew) | (with_reducible apply Sz.drewN) | (with_reducible apply Sz.bytesW) | (with_reducible assumption) | (with_reducible exact Sz.base _)))⟩
              · have HAV : Hid (vs.all verOk = true) := by show _ = _; have h9 := HAJ.out; rw [List.take_of_length_le (by omega)] at h9; exact h9
                have HN : Hid (entRise es (k + 1) = true) := HGOOD.out HAV.out
                go_wp2_with fail
                go_roundw
                case rel => exact ⟨k + 1, by omega, by go_num, HN, Lib.hid (by refine Hp.sel (by repeat (first | (with_reducible exact H) | (with_reducible apply Hp.alloc) | (with_reducible apply Hp.set) | (with_reducible apply Hp.drew) | (with_reducible apply Hp.drewN) | (with_reducible apply Hp.bytesW) | (with_reducible exact Upd.here) | (with_reducible exact Upd.hereR) | (with_reducible apply Upd.there) | (with_reducible apply Sz.alloc) | (with_reducible apply Sz.set) | (with_reducible apply Sz.drew) | (with_reducible apply Sz.drewN) | (with_reducible apply Sz.bytesW) | (with_reducible assumption) | (with_reducible exact Sz.base _))) ?_; (try simp only [List.set_cons_zero, List.set_cons_succ]); exact (by repeat (first | (with_reducible exact Sel.nil) | (with_reducible apply Sel.cons) | (with_reducible exact Del.here) | (with_reducible apply Del.there))))⟩
                case measure => simp [intOf]; omega
      · have hk2 : decide ((0 : Int) < (k : Int)) = true := by simp; omega
        have hk2n : decide (0 < k) = true := by simp; omega
        have hw1 : IntKind.i64.wrap ((k : Int) - 1) = (k : Int) - 1 := by rw [IntKind.wrap_i64]; omega
        have hp1 : (k : Int) - 1 < (n : Int) := by omega
        have hp0 : (0 : Int) ≤ (k : Int) - 1 := by omega
        have hp2 : (1 : Int) ≤ (k : Int) := by omega
        have hqs : ∀ (W : World) (L : List Ent), Hp w W L → W.cell? ⟨b, off + (k - 1) * 3, none⟩ = some (.string (es[k - 1]'(by omega)).path) := fun W L h => (Rd.entAt hr hn (k := k - 1) (by omega) rfl W h.b).1
        have hpe : (es[k - 1]?.map (·.path)).getD ByteArray.empty = (es[k - 1]'(by omega)).path := by rw [List.getElem?_eq_getElem (by omega : k - 1 < es.length)]; rfl
        have hst0 : entStep es k = ((pathF (es[k]'(by omega)).path && (inR (es[k]'(by omega)).first 1 1000000 && (inR (es[k]'(by omega)).vs.length 1 8 && (es[k]'(by omega)).vs.all verOk))) && ltS (es[k - 1]'(by omega)).path (es[k]'(by omega)).path) := by rw [hst, hpe]; simp [hkz, entOk]
        clear hpe hst
        generalize (es[k - 1]'(by omega)).path = q at *
        have HQS := Lib.hid hqs
        clear hqs
        generalize (es[k]'(by omega)) = l at *
        clear hkz
        cases g1 : pathF l.path with
        | false =>
          have g2 : True := trivial
          have g3 : True := trivial
          have HN : Hid (entRise es n = false) := entRise_no hlt (by rw [hst0, g1]; simp)
          clear hst0
          have HCS := Lib.hid hcs
          clear hcs
          obtain ⟨c0, c1, c2⟩ := HCS.out _ _ H
          obtain ⟨path, first, vs, va, vc⟩ := l
          dsimp only at c0 c1 c2 hls g1 g2 g3
          have hbw : b < wr.heap.size := Nat.lt_of_lt_of_le hb H.b.size
          have hbe : ¬ b = wr.heap.size ∧ ¬ wr.heap.size = b := by omega
          go_wp2_with fail
          replace H := H.alloc (t := 62) (cs := [.string path, .int .i64 first, .slice va vs.length vc]) (Sz.base wr)
          clear F; have F := H.facts; simp only [Facts, NeF, box, row, reg, cellsF, ne_eq, true_and, and_true, Nat.reduceAdd, Nat.zero_add] at F
          clear F
          (refine wp_region_quiet (C := fun W => Hp w W [box wr.heap.size 62 [.string path, .int .i64 first, .slice va vs.length vc], box w.heap.size 26 [.slice (some ⟨b, off, none⟩) n c]]) (by kernel_rfl) (by kernel_rfl) (by show Hp _ (World.drew _) _; exact (by repeat (first | (with_reducible exact H) | (with_reducible apply Hp.alloc) | (with_reducible apply Hp.set) | (with_reducible apply Hp.drew) | (with_reducible apply Hp.drewN) | (with_reducible apply Hp.bytesW) | (with_reducible exact Upd.here) | (with_reducible exact Upd.hereR) | (with_reducible apply Upd.there) | (with_reducible apply Sz.alloc) | (with_reducible apply Sz.set) | (with_reducible apply Sz.drew) | (with_reducible apply Sz.drewN) | (with_reducible apply Sz.bytesW) | (with_reducible assumption) | (with_reducible exact Sz.base _)))) ?_; (repeat (first | go_big_quiet_skip | (refine BigFrame.wpQuiet_want (by rfl) (fun K hK => ?_); unfold Oper.quiet; apply Exists.intro; refine ⟨fun W hW => ?_, hK _ ?_⟩; (focus (have G := hW.facts; simp only [Facts, NeF, box, row, reg, cellsF, ne_eq, true_and, and_true, Nat.reduceAdd, Nat.zero_add] at G; skip; go_simp; first | rfl | (go_at_call 37; refine (l01In_any _ _ _ _).mono ?_; rintro e w' ⟨rfl, rfl⟩; (first | rw [g2] | rw [g3]); exact ⟨rfl, hW⟩) | (go_at_call 36; refine (PathOk_any path _ hls).mono ?_; rintro e w1 ⟨rfl, hb1⟩; rw [g1]; exact ⟨rfl, hW.step hb1⟩))); clear hK K; simp only [Act.put, List.setIfInBounds_toArray, List.set_cons_zero, List.set_cons_succ]))); refine wpQuiet_nil ?_; intro wq H; have F := H.facts; simp only [Facts, NeF, box, row, reg, cellsF, ne_eq, true_and, and_true, Nat.reduceAdd, Nat.zero_add] at F)
          all_goals
            go_wp2_with fail
            go_ret
            exact ⟨by rw [HE.out, HN.out]; rfl, Hp.b (by repeat (first | (with_reducible exact H) | (with_reducible apply Hp.alloc) | (with_reducible apply Hp.set) | (with_reducible apply Hp.drew) | (with_reducible apply Hp.drewN) | (with_reducible apply Hp.bytesW) | (with_reducible exact Upd.here) | (with_reducible exact Upd.hereR) | (with_reducible apply Upd.there) | (with_reducible apply Sz.alloc) | (with_reducible apply Sz.set) | (with_reducible apply Sz.drew) | (with_reducible apply Sz.drewN) | (with_reducible apply Sz.bytesW) | (with_reducible assumption) | (with_reducible exact Sz.base _)))⟩
        | true =>
        cases g2 : inR l.first 1 1000000 with
        | false =>
          have g3 : True := trivial
          have HN : Hid (entRise es n = false) := entRise_no hlt (by rw [hst0, g1, g2]; simp)
          clear hst0
          have HCS := Lib.hid hcs
          clear hcs
          obtain ⟨c0, c1, c2⟩ := HCS.out _ _ H
          obtain ⟨path, first, vs, va, vc⟩ := l
          dsimp only at c0 c1 c2 hls g1 g2 g3
          have hbw : b < wr.heap.size := Nat.lt_of_lt_of_le hb H.b.size
          have hbe : ¬ b = wr.heap.size ∧ ¬ wr.heap.size = b := by omega
          go_wp2_with fail
          replace H := H.alloc (t := 62) (cs := [.string path, .int .i64 first, .slice va vs.length vc]) (Sz.base wr)
          clear F; have F := H.facts; simp only [Facts, NeF, box, row, reg, cellsF, ne_eq, true_and, and_true, Nat.reduceAdd, Nat.zero_add] at F
          clear F
          (refine wp_region_quiet (C := fun W => Hp w W [box wr.heap.size 62 [.string path, .int .i64 first, .slice va vs.length vc], box w.heap.size 26 [.slice (some ⟨b, off, none⟩) n c]]) (by kernel_rfl) (by kernel_rfl) (by show Hp _ (World.drew _) _; exact (by repeat (first | (with_reducible exact H) | (with_reducible apply Hp.alloc) | (with_reducible apply Hp.set) | (with_reducible apply Hp.drew) | (with_reducible apply Hp.drewN) | (with_reducible apply Hp.bytesW) | (with_reducible exact Upd.here) | (with_reducible exact Upd.hereR) | (with_reducible apply Upd.there) | (with_reducible apply Sz.alloc) | (with_reducible apply Sz.set) | (with_reducible apply Sz.drew) | (with_reducible apply Sz.drewN) | (with_reducible apply Sz.bytesW) | (with_reducible assumption) | (with_reducible exact Sz.base _)))) ?_; (repeat (first | go_big_quiet_skip | (refine BigFrame.wpQuiet_want (by rfl) (fun K hK => ?_); unfold Oper.quiet; apply Exists.intro; refine ⟨fun W hW => ?_, hK _ ?_⟩; (focus (have G := hW.facts; simp only [Facts, NeF, box, row, reg, cellsF, ne_eq, true_and, and_true, Nat.reduceAdd, Nat.zero_add] at G; skip; go_simp; first | rfl | (go_at_call 37; refine (l01In_any _ _ _ _).mono ?_; rintro e w' ⟨rfl, rfl⟩; (first | rw [g2] | rw [g3]); exact ⟨rfl, hW⟩) | (go_at_call 36; refine (PathOk_any path _ hls).mono ?_; rintro e w1 ⟨rfl, hb1⟩; rw [g1]; exact ⟨rfl, hW.step hb1⟩))); clear hK K; simp only [Act.put, List.setIfInBounds_toArray, List.set_cons_zero, List.set_cons_succ]))); refine wpQuiet_nil ?_; intro wq H; have F := H.facts; simp only [Facts, NeF, box, row, reg, cellsF, ne_eq, true_and, and_true, Nat.reduceAdd, Nat.zero_add] at F)
          all_goals
            go_wp2_with fail
            go_ret
            exact ⟨by rw [HE.out, HN.out]; rfl, Hp.b (by repeat (first | (with_reducible exact H) | (with_reducible apply Hp.alloc) | (with_reducible apply Hp.set) | (with_reducible apply Hp.drew) | (with_reducible apply Hp.drewN) | (with_reducible apply Hp.bytesW) | (with_reducible exact Upd.here) | (with_reducible exact Upd.hereR) | (with_reducible apply Upd.there) | (with_reducible apply Sz.alloc) | (with_reducible apply Sz.set) | (with_reducible apply Sz.drew) | (with_reducible apply Sz.drewN) | (with_reducible apply Sz.bytesW) | (with_reducible assumption) | (with_reducible exact Sz.base _)))⟩
        | true =>
        cases g3 : inR l.vs.length 1 8 with
        | false =>
          have HN : Hid (entRise es n = false) := entRise_no hlt (by rw [hst0, g1, g2, g3]; simp)
          clear hst0
          have HCS := Lib.hid hcs
          clear hcs
          obtain ⟨c0, c1, c2⟩ := HCS.out _ _ H
          obtain ⟨path, first, vs, va, vc⟩ := l
          dsimp only at c0 c1 c2 hls g1 g2 g3
          have hbw : b < wr.heap.size := Nat.lt_of_lt_of_le hb H.b.size
          have hbe : ¬ b = wr.heap.size ∧ ¬ wr.heap.size = b := by omega
          go_wp2_with fail
          replace H := H.alloc (t := 62) (cs := [.string path, .int .i64 first, .slice va vs.length vc]) (Sz.base wr)
          clear F; have F := H.facts; simp only [Facts, NeF, box, row, reg, cellsF, ne_eq, true_and, and_true, Nat.reduceAdd, Nat.zero_add] at F
          clear F
          (refine wp_region_quiet (C := fun W => Hp w W [box wr.heap.size 62 [.string path, .int .i64 first, .slice va vs.length vc], box w.heap.size 26 [.slice (some ⟨b, off, none⟩) n c]]) (by kernel_rfl) (by kernel_rfl) (by show Hp _ (World.drew _) _; exact (by repeat (first | (with_reducible exact H) | (with_reducible apply Hp.alloc) | (with_reducible apply Hp.set) | (with_reducible apply Hp.drew) | (with_reducible apply Hp.drewN) | (with_reducible apply Hp.bytesW) | (with_reducible exact Upd.here) | (with_reducible exact Upd.hereR) | (with_reducible apply Upd.there) | (with_reducible apply Sz.alloc) | (with_reducible apply Sz.set) | (with_reducible apply Sz.drew) | (with_reducible apply Sz.drewN) | (with_reducible apply Sz.bytesW) | (with_reducible assumption) | (with_reducible exact Sz.base _)))) ?_; (repeat (first | go_big_quiet_skip | (refine BigFrame.wpQuiet_want (by rfl) (fun K hK => ?_); unfold Oper.quiet; apply Exists.intro; refine ⟨fun W hW => ?_, hK _ ?_⟩; (focus (have G := hW.facts; simp only [Facts, NeF, box, row, reg, cellsF, ne_eq, true_and, and_true, Nat.reduceAdd, Nat.zero_add] at G; skip; go_simp; first | rfl | (go_at_call 37; refine (l01In_any _ _ _ _).mono ?_; rintro e w' ⟨rfl, rfl⟩; (first | rw [g2] | rw [g3]); exact ⟨rfl, hW⟩) | (go_at_call 36; refine (PathOk_any path _ hls).mono ?_; rintro e w1 ⟨rfl, hb1⟩; rw [g1]; exact ⟨rfl, hW.step hb1⟩))); clear hK K; simp only [Act.put, List.setIfInBounds_toArray, List.set_cons_zero, List.set_cons_succ]))); refine wpQuiet_nil ?_; intro wq H; have F := H.facts; simp only [Facts, NeF, box, row, reg, cellsF, ne_eq, true_and, and_true, Nat.reduceAdd, Nat.zero_add] at F)
          all_goals
            go_wp2_with fail
            go_ret
            exact ⟨by rw [HE.out, HN.out]; rfl, Hp.b (by repeat (first | (with_reducible exact H) | (with_reducible apply Hp.alloc) | (with_reducible apply Hp.set) | (with_reducible apply Hp.drew) | (with_reducible apply Hp.drewN) | (with_reducible apply Hp.bytesW) | (with_reducible exact Upd.here) | (with_reducible exact Upd.hereR) | (with_reducible apply Upd.there) | (with_reducible apply Sz.alloc) | (with_reducible apply Sz.set) | (with_reducible apply Sz.drew) | (with_reducible apply Sz.drewN) | (with_reducible apply Sz.bytesW) | (with_reducible assumption) | (with_reducible exact Sz.base _)))⟩
        | true =>
          cases g4 : ltS q l.path with
          | false =>
            have g5 : Op.bytesLess q.toList l.path.toList = false := g4
            have HN : Hid (entRise es n = false) := entRise_no hlt (by rw [hst0, g4]; simp)
            clear hst0
            have HCS := Lib.hid hcs
            clear hcs
            obtain ⟨c0, c1, c2⟩ := HCS.out _ _ H
            obtain ⟨path, first, vs, va, vc⟩ := l
            dsimp only at c0 c1 c2 hls g1 g2 g3 g4 g5
            have hbw : b < wr.heap.size := Nat.lt_of_lt_of_le hb H.b.size
            have hbe : ¬ b = wr.heap.size ∧ ¬ wr.heap.size = b := by omega
            go_wp2_with fail
            replace H := H.alloc (t := 62) (cs := [.string path, .int .i64 first, .slice va vs.length vc]) (Sz.base wr)
            clear F; have F := H.facts; simp only [Facts, NeF, box, row, reg, cellsF, ne_eq, true_and, and_true, Nat.reduceAdd, Nat.zero_add] at F
            clear F
            (refine wp_region_quiet (C := fun W => Hp w W [box wr.heap.size 62 [.string path, .int .i64 first, .slice va vs.length vc], box w.heap.size 26 [.slice (some ⟨b, off, none⟩) n c]]) (by kernel_rfl) (by kernel_rfl) (by show Hp _ (World.drew _) _; exact (by repeat (first | (with_reducible exact H) | (with_reducible apply Hp.alloc) | (with_reducible apply Hp.set) | (with_reducible apply Hp.drew) | (with_reducible apply Hp.drewN) | (with_reducible apply Hp.bytesW) | (with_reducible exact Upd.here) | (with_reducible exact Upd.hereR) | (with_reducible apply Upd.there) | (with_reducible apply Sz.alloc) | (with_reducible apply Sz.set) | (with_reducible apply Sz.drew) | (with_reducible apply Sz.drewN) | (with_reducible apply Sz.bytesW) | (with_reducible assumption) | (with_reducible exact Sz.base _)))) ?_; (repeat (first | go_big_quiet_skip | (refine BigFrame.wpQuiet_want (by rfl) (fun K hK => ?_); unfold Oper.quiet; apply Exists.intro; refine ⟨fun W hW => ?_, hK _ ?_⟩; (focus (have G := hW.facts; simp only [Facts, NeF, box, row, reg, cellsF, ne_eq, true_and, and_true, Nat.reduceAdd, Nat.zero_add] at G; have q0 := HQS.out _ _ hW; have hbw9 := Nat.lt_of_lt_of_le hb hW.b.size; go_simp; first | rfl | (go_at_call 37; refine (l01In_any _ _ _ _).mono ?_; rintro e w' ⟨rfl, rfl⟩; (first | rw [g2] | rw [g3]); exact ⟨rfl, hW⟩) | (go_at_call 36; refine (PathOk_any path _ hls).mono ?_; rintro e w1 ⟨rfl, hb1⟩; rw [g1]; exact ⟨rfl, hW.step hb1⟩))); clear hK K; simp only [Act.put, List.setIfInBounds_toArray, List.set_cons_zero, List.set_cons_succ]))); refine wpQuiet_nil ?_; intro wq H; have F := H.facts; simp only [Facts, NeF, box, row, reg, cellsF, ne_eq, true_and, and_true, Nat.reduceAdd, Nat.zero_add] at F)
            all_goals
              go_wp2_with fail
              go_ret
              exact ⟨by rw [HE.out, HN.out]; rfl, Hp.b (by repeat (first | (with_reducible exact H) | (with_reducible apply Hp.alloc) | (with_reducible apply Hp.set) | (with_reducible apply Hp.drew) | (with_reducible apply Hp.drewN) | (with_reducible apply Hp.bytesW) | (with_reducible exact Upd.here) | (with_reducible exact Upd.hereR) | (with_reducible apply Upd.there) | (with_reducible apply Sz.alloc) | (with_reducible apply Sz.set) | (with_reducible apply Sz.drew) | (with_reducible apply Sz.drewN) | (with_reducible apply Sz.bytesW) | (with_reducible assumption) | (with_reducible exact Sz.base _)))⟩
          | true =>
            have g5 : Op.bytesLess q.toList l.path.toList = true := g4
            have HBAD : Hid (l.vs.all verOk = false → entRise es n = false) := fun h => entRise_no hlt (by rw [hst0, g1, g2, g3, g4, h]; rfl)
            have HGOOD : Hid (l.vs.all verOk = true → entRise es (k + 1) = true) := fun h => entRise_snoc HR.out (by rw [hst0, g1, g2, g3, g4, h]; rfl)
            clear hst0
            have hvr := hdr.1.1
            clear hdr
            have HCS := Lib.hid hcs
            clear hcs
            obtain ⟨c0, c1, c2⟩ := HCS.out _ _ H
            obtain ⟨path, first, vs, va, vc⟩ := l
            dsimp only at c0 c1 c2 hls g1 g2 g3 g4 g5
            have hbw : b < wr.heap.size := Nat.lt_of_lt_of_le hb H.b.size
            have hbe : ¬ b = wr.heap.size ∧ ¬ wr.heap.size = b := by omega
            go_wp2_with fail
            replace H := H.alloc (t := 62) (cs := [.string path, .int .i64 first, .slice va vs.length vc]) (Sz.base wr)
            clear F; have F := H.facts; simp only [Facts, NeF, box, row, reg, cellsF, ne_eq, true_and, and_true, Nat.reduceAdd, Nat.zero_add] at F
            clear F
            (try dsimp only at hvr HBAD HGOOD)
            (refine wp_region_quiet (C := fun W => Hp w W [box wr.heap.size 62 [.string path, .int .i64 first, .slice va vs.length vc], box w.heap.size 26 [.slice (some ⟨b, off, none⟩) n c]]) (by kernel_rfl) (by kernel_rfl) (by show Hp _ (World.drew _) _; exact (by repeat (first | (with_reducible exact H) | (with_reducible apply Hp.alloc) | (with_reducible apply Hp.set) | (with_reducible apply Hp.drew) | (with_reducible apply Hp.drewN) | (with_reducible apply Hp.bytesW) | (with_reducible exact Upd.here) | (with_reducible exact Upd.hereR) | (with_reducible apply Upd.there) | (with_reducible apply Sz.alloc) | (with_reducible apply Sz.set) | (with_reducible apply Sz.drew) | (with_reducible apply Sz.drewN) | (with_reducible apply Sz.bytesW) | (with_reducible assumption) | (with_reducible exact Sz.base _)))) ?_; (repeat (first | go_big_quiet_skip | (refine BigFrame.wpQuiet_want (by rfl) (fun K hK => ?_); unfold Oper.quiet; apply Exists.intro; refine ⟨fun W hW => ?_, hK _ ?_⟩; (focus (have G := hW.facts; simp only [Facts, NeF, box, row, reg, cellsF, ne_eq, true_and, and_true, Nat.reduceAdd, Nat.zero_add] at G; have q0 := HQS.out _ _ hW; have hbw9 := Nat.lt_of_lt_of_le hb hW.b.size; go_simp; first | rfl | (go_at_call 37; refine (l01In_any _ _ _ _).mono ?_; rintro e w' ⟨rfl, rfl⟩; (first | rw [g2] | rw [g3]); exact ⟨rfl, hW⟩) | (go_at_call 36; refine (PathOk_any path _ hls).mono ?_; rintro e w1 ⟨rfl, hb1⟩; rw [g1]; exact ⟨rfl, hW.step hb1⟩))); clear hK K; simp only [Act.put, List.setIfInBounds_toArray, List.set_cons_zero, List.set_cons_succ]))); refine wpQuiet_nil ?_; intro wq H; have F := H.facts; simp only [Facts, NeF, box, row, reg, cellsF, ne_eq, true_and, and_true, Nat.reduceAdd, Nat.zero_add] at F)
            all_goals
              go_wp2_with fail
              clear F
              have hv8 : vs.length ≤ 8 := by have h9 := (inR_true.1 g3).2; omega
              generalize hB4 : wr.heap.size = b4 at *
              clear hB4
              have HH := Lib.hid H; clear H
              go_loopw [5] (fun i wi => ∃ j : Nat, j ≤ vs.length ∧ i = .int .i64 j ∧ Hid ((vs.take j).all verOk = true) ∧ Hid (Hp w wi [box b4 62 [.string path, .int .i64 first, .slice va vs.length vc], box w.heap.size 26 [.slice (some ⟨b, off, none⟩) n c]])) (fun i _ => vs.length - (intOf i).toNat)
              case atStart =>
                have H := HH.out
                exact ⟨0, Nat.zero_le _, rfl, by show _ = _; simp, Lib.hid (by refine Hp.sel (by repeat (first | (with_reducible exact H) | (with_reducible apply Hp.alloc) | (with_reducible apply Hp.set) | (with_reducible apply Hp.drew) | (with_reducible apply Hp.drewN) | (with_reducible apply Hp.bytesW) | (with_reducible exact Upd.here) | (with_reducible exact Upd.hereR) | (with_reducible apply Upd.there) | (with_reducible apply Sz.alloc) | (with_reducible apply Sz.set) | (with_reducible apply Sz.drew) | (with_reducible apply Sz.drewN) | (with_reducible apply Sz.bytesW) | (with_reducible assumption) | (with_reducible exact Sz.base _))) ?_; (try simp only [List.set_cons_zero, List.set_cons_succ]); exact (by repeat (first | (with_reducible exact Sel.nil) | (with_reducible apply Sel.cons) | (with_reducible exact Del.here) | (with_reducible apply Del.there))))⟩
              case round =>
                clear HH
                obtain ⟨wi, hwi⟩ : ∃ x, x = wr := ⟨_, rfl⟩
                subst hwi
                obtain ⟨j, hj, rfl, HAJ, HP2⟩ := hrel
                have H := HP2.out
                have F := H.facts; simp only [Facts, NeF, box, row, reg, cellsF, ne_eq, true_and, and_true, Nat.reduceAdd, Nat.zero_add] at F
                by_cases hjl : j < vs.length
                · skip
                  obtain ⟨b2, off2, rfl, hb2⟩ := Rd.atV (enc := encVer) hvr rfl encVer_len (by omega)
                  have hvs : ∀ (W : World) (L : List Ent), Hp w W L → _ := fun W L h => Rd.verAt hvr rfl (k := j) hjl rfl W h.b
                  have HVS := Lib.hid hvs; clear hvs
                  obtain ⟨d0, d1, d2, d3⟩ := HVS.out _ _ H
                  have hj1 : (j : Int) < (vs.length : Int) := by omega
                  have hj0 : (0 : Int) ≤ (j : Int) := by omega
                  have hbw2 : b2 < wi.heap.size := Nat.lt_of_lt_of_le hb2 H.b.size
                  have hbe2 : ¬ b2 = wi.heap.size ∧ ¬ wi.heap.size = b2 := by omega
                  have HJ1 : Hid (j + 1 ≤ vs.length ∧ vs.length - (j + 1) < vs.length - j) := ⟨by omega, by omega⟩
                  have hvj : (vs.take (j + 1)).all verOk = ((vs.take j).all verOk && verOk vs[j]) := by rw [List.take_succ_eq_append_getElem hjl, List.all_append]; simp
                  have HVJ := Lib.hid hvj; clear hvj
                  have HMJ : Hid (verOk vs[j] = false → vs.all verOk = false) := fun h => by rw [List.all_eq_false]; exact ⟨_, List.getElem_mem hjl, by simp [h]⟩
                  generalize vs[j] = v at *
                  obtain ⟨data, da, dc, made, gone, dead⟩ := v
                  dsimp only at d0 d1 d2 d3
                  by_cases a1 : data.length ≤ 300
                  rotate_left
                  · have a1i : (300 : Int) < (data.length : Int) := by omega
                    have a1b : decide ((300 : Int) < (data.length : Int)) = true := decide_eq_true a1i
                    have a2 : True := trivial
                    have HB : Hid (entRise es n = false) := by
                      have h9 : verOk ⟨data, da, dc, made, gone, dead⟩ = false := by simp [verOk, a1]
                      exact HBAD.out (HMJ.out h9)
                    clear HVJ HMJ
                    go_wp2_with (go_at_call 37; refine (l01In_any _ _ _ _).mono ?_; rintro e w' ⟨rfl, rfl⟩; rw [a2])
                    go_ret
                    exact ⟨by rw [HE.out, HB.out]; rfl, Hp.b (by repeat (first | (with_reducible exact H) | (with_reducible apply Hp.alloc) | (with_reducible apply Hp.set) | (with_reducible apply Hp.drew) | (with_reducible apply Hp.drewN) | (with_reducible apply Hp.bytesW) | (with_reducible exact Upd.here) | (with_reducible exact Upd.hereR) | (with_reducible apply Upd.there) | (with_reducible apply Sz.alloc) | (with_reducible apply Sz.set) | (with_reducible apply Sz.drew) | (with_reducible apply Sz.drewN) | (with_reducible apply Sz.bytesW) | (with_reducible assumption) | (with_reducible exact Sz.base _)))⟩
                  have a1i : ¬ (300 : Int) < (data.length : Int) := by omega
                  have a1b : decide ((300 : Int) < (data.length : Int)) = false := decide_eq_false a1i
                  cases a2 : inR made 0 1000000000 with
                  | false =>
                    have HB : Hid (entRise es n = false) := by
                      have h9 : verOk ⟨data, da, dc, made, gone, dead⟩ = false := by simp [verOk, a2]
                      exact HBAD.out (HMJ.out h9)
                    clear HVJ HMJ
                    go_wp2_with (go_at_call 37; refine (l01In_any _ _ _ _).mono ?_; rintro e w' ⟨rfl, rfl⟩; rw [a2])
                    go_ret
                    exact ⟨by rw [HE.out, HB.out]; rfl, Hp.b (by repeat (first | (with_reducible exact H) | (with_reducible apply Hp.alloc) | (with_reducible apply Hp.set) | (with_reducible apply Hp.drew) | (with_reducible apply Hp.drewN) | (with_reducible apply Hp.bytesW) | (with_reducible exact Upd.here) | (with_reducible exact Upd.hereR) | (with_reducible apply Upd.there) | (with_reducible apply Sz.alloc) | (with_reducible apply Sz.set) | (with_reducible apply Sz.drew) | (with_reducible apply Sz.drewN) | (with_reducible apply Sz.bytesW) | (with_reducible assumption) | (with_reducible exact Sz.base _)))⟩
                  | true =>
                  cases dead with
                  | false =>
                    have HG : Hid ((vs.take (j + 1)).all verOk = true) := by
                      have h9 : verOk ⟨data, da, dc, made, gone, false⟩ = true := by simp [verOk, a1, a2]
                      show _ = _; rw [HVJ.out, h9, HAJ.out]; rfl
                    clear HVJ HMJ
                    go_wp2_with (go_at_call 37; refine (l01In_any _ _ _ _).mono ?_; rintro e w' ⟨rfl, rfl⟩; rw [a2])
                    go_roundw
                    case rel => exact ⟨j + 1, HJ1.out.1, by go_num, HG, Lib.hid (by refine Hp.sel (by repeat (first | (with_reducible exact H) | (with_reducible apply Hp.alloc) | (with_reducible apply Hp.set) | (with_reducible apply Hp.drew) | (with_reducible apply Hp.drewN) | (with_reducible apply Hp.bytesW) | (with_reducible exact Upd.here) | (with_reducible exact Upd.hereR) | (with_reducible apply Upd.there) | (with_reducible apply Sz.alloc) | (with_reducible apply Sz.set) | (with_reducible apply Sz.drew) | (with_reducible apply Sz.drewN) | (with_reducible apply Sz.bytesW) | (with_reducible assumption) | (with_reducible exact Sz.base _))) ?_; (try simp only [List.set_cons_zero, List.set_cons_succ]); exact (by repeat (first | (with_reducible exact Sel.nil) | (with_reducible apply Sel.cons) | (with_reducible exact Del.here) | (with_reducible apply Del.there))))⟩
                    case measure => have := HJ1.out.2; simp [intOf]; omega
                  | true =>
                  cases gone with
                  | true =>
                    have HB : Hid (entRise es n = false) := by
                      have h9 : verOk ⟨data, da, dc, made, true, true⟩ = false := by simp [verOk]
                      exact HBAD.out (HMJ.out h9)
                    clear HVJ HMJ
                    go_wp2_with (go_at_call 37; refine (l01In_any _ _ _ _).mono ?_; rintro e w' ⟨rfl, rfl⟩; rw [a2])
                    go_ret
                    exact ⟨by rw [HE.out, HB.out]; rfl, Hp.b (by repeat (first | (with_reducible exact H) | (with_reducible apply Hp.alloc) | (with_reducible apply Hp.set) | (with_reducible apply Hp.drew) | (with_reducible apply Hp.drewN) | (with_reducible apply Hp.bytesW) | (with_reducible exact Upd.here) | (with_reducible exact Upd.hereR) | (with_reducible apply Upd.there) | (with_reducible apply Sz.alloc) | (with_reducible apply Sz.set) | (with_reducible apply Sz.drew) | (with_reducible apply Sz.drewN) | (with_reducible apply Sz.bytesW) | (with_reducible assumption) | (with_reducible exact Sz.base _)))⟩
                  | false =>
                  by_cases a3 : data.length = 0
                  · have a3i : ¬ (0 : Int) < (data.length : Int) := by omega
                    have a3b : decide ((0 : Int) < (data.length : Int)) = false := decide_eq_false a3i
                    have a3n : decide (0 < data.length) = false := decide_eq_false (by omega)
                    have A3 := Lib.hid a3
                    clear a3
                    have HG : Hid ((vs.take (j + 1)).all verOk = true) := by
                      have h9 : verOk ⟨data, da, dc, made, false, true⟩ = true := by simp [verOk, a1, a2, A3.out]
                      show _ = _; rw [HVJ.out, h9, HAJ.out]; rfl
                    clear HVJ HMJ
                    go_wp2_with (go_at_call 37; refine (l01In_any _ _ _ _).mono ?_; rintro e w' ⟨rfl, rfl⟩; rw [a2])
                    go_roundw
                    case rel => exact ⟨j + 1, HJ1.out.1, by go_num, HG, Lib.hid (by refine Hp.sel (by repeat (first | (with_reducible exact H) | (with_reducible apply Hp.alloc) | (with_reducible apply Hp.set) | (with_reducible apply Hp.drew) | (with_reducible apply Hp.drewN) | (with_reducible apply Hp.bytesW) | (with_reducible exact Upd.here) | (with_reducible exact Upd.hereR) | (with_reducible apply Upd.there) | (with_reducible apply Sz.alloc) | (with_reducible apply Sz.set) | (with_reducible apply Sz.drew) | (with_reducible apply Sz.drewN) | (with_reducible apply Sz.bytesW) | (with_reducible assumption) | (with_reducible exact Sz.base _))) ?_; (try simp only [List.set_cons_zero, List.set_cons_succ]); exact (by repeat (first | (with_reducible exact Sel.nil) | (with_reducible apply Sel.cons) | (with_reducible exact Del.here) | (with_reducible apply Del.there))))⟩
                    case measure => have := HJ1.out.2; simp [intOf]; omega
                  · have a3i : (0 : Int) < (data.length : Int) := by omega
                    have a3b : decide ((0 : Int) < (data.length : Int)) = true := decide_eq_true a3i
                    have a3n : decide (0 < data.length) = true := decide_eq_true (by omega)
                    have HB : Hid (entRise es n = false) := by
                      have h9 : verOk ⟨data, da, dc, made, false, true⟩ = false := by simp [verOk, a3]
                      exact HBAD.out (HMJ.out h9)
                    clear HVJ HMJ
                    go_wp2_with (go_at_call 37; refine (l01In_any _ _ _ _).mono ?_; rintro e w' ⟨rfl, rfl⟩; rw [a2])
                    go_ret
                    exact ⟨by rw [HE.out, HB.out]; rfl, Hp.b (by repeat (first | (with_reducible exact H) | (with_reducible apply Hp.alloc) | (with_reducible apply Hp.set) | (with_reducible apply Hp.drew) | (with_reducible apply Hp.drewN) | (with_reducible apply Hp.bytesW) | (with_reducible exact Upd.here) | (with_reducible exact Upd.hereR) | (with_reducible apply Upd.there) | (with_reducible apply Sz.alloc) | (with_reducible apply Sz.set) | (with_reducible apply Sz.drew) | (with_reducible apply Sz.drewN) | (with_reducible apply Sz.bytesW) | (with_reducible assumption) | (with_reducible exact Sz.base _)))⟩
                · have HAV : Hid (vs.all verOk = true) := by show _ = _; have h9 := HAJ.out; rw [List.take_of_length_le (by omega)] at h9; exact h9
                  have HN : Hid (entRise es (k + 1) = true) := HGOOD.out HAV.out
                  go_wp2_with fail
                  go_roundw
                  case rel => exact ⟨k + 1, by omega, by go_num, HN, Lib.hid (by refine Hp.sel (by repeat (first | (with_reducible exact H) | (with_reducible apply Hp.alloc) | (with_reducible apply Hp.set) | (with_reducible apply Hp.drew) | (with_reducible apply Hp.drewN) | (with_reducible apply Hp.bytesW) | (with_reducible exact Upd.here) | (with_reducible exact Upd.hereR) | (with_reducible apply Upd.there) | (with_reducible apply Sz.alloc) | (with_reducible apply Sz.set) | (with_reducible apply Sz.drew) | (with_reducible apply Sz.drewN) | (with_reducible apply Sz.bytesW) | (with_reducible assumption) | (with_reducible exact Sz.base _))) ?_; (try simp only [List.set_cons_zero, List.set_cons_succ]); exact (by repeat (first | (with_reducible exact Sel.nil) | (with_reducible apply Sel.cons) | (with_reducible exact Del.here) | (with_reducible apply Del.there))))⟩
                  case measure => simp [intOf]; omega
    · have HF : Hid (entRise es n = true) := by rw [show n = k by omega]; exact HR
      go_wp2_with fail
      go_ret
      exact ⟨by rw [HE.out, HF.out]; rfl, H.b⟩
end Go.Proofs.YtklmcbabpncfmaaDoor

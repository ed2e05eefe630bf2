/- Stores copied: the program's. No condition. -/
import Derived.Test.YtklmcbabpncfmaaDoorKvC
import Derived.Test.YtklmcbabpncfmaaDoorKvH
import Derived.Deep.RegionHeld3
namespace Go.Proofs.YtklmcbabpncfmaaDoor
open Go.RowKit
set_option linter.unusedVariables false
set_option linter.unusedSimpArgs false
theorem Hp.snoc2 {w0 w : World} {P X Y : List Ent} {r : Ent} (H : Hp w0 w (P ++ (r :: (X ++ Y)))) : Hp w0 w (P ++ ((X ++ [r]) ++ Y)) := by
  refine H.perm (List.Perm.append_left P ?_)
  rw [List.append_assoc]
  exact List.perm_middle
theorem oneNew (p : ByteArray) (f : Int) (A : Option Addr) (n c : Nat) : ∀ x ∈ [Value.string p, .int .i64 f, .slice A n c], x.oneCell' = true := by
  intro x hx
  simp only [List.mem_cons, List.not_mem_nil, or_false] at hx
  rcases hx with rfl | rfl | rfl <;> rfl
theorem Hp.ne_rowK {w0 w : World} {L : List Ent} {f g n c m k : Nat} {t e : TypeId} {cs xs : List Value} (H : Hp w0 w L) (h : Sel L [box f t cs, row e k (.slice (some ⟨g, 0, none⟩) n c) m xs]) : ¬ g = f ∧ ¬ f = g := by
  have h2 := (List.pairwise_cons.1 (H.sel h).ap).1 _ List.mem_cons_self
  have h3 : ¬ g = f := fun e1 => h2 f rfl (by show (Value.slice (some ⟨g, 0, none⟩) n c).ownBlock = some f; rw [← e1]; rfl)
  exact ⟨h3, fun e1 => h3 e1.symm⟩
set_option maxHeartbeats 16000000 in
set_option maxRecDepth 10000 in
theorem cloneStore_hp (A : Option Addr) (n c : Nat) (us : List Entry) (w : World) (hr : Rd w w.heap.size 3 A n c (us.flatMap encEntry)) (hn : us.length = n) (hb20 : n ≤ 1048576) (hd : ∀ u ∈ us, DE 0 w u) (hvl : ∀ u ∈ us, u.vs.length ≤ 1048576) (hdl : ∀ u ∈ us, ∀ v ∈ u.vs, v.data.length ≤ 1048576) :
    Calls Tryd.prog 41 #[.agg #[.slice A n c]] w fun e w' => ∃ A' c', ∃ vs : List Entry, e = .returned (.agg #[.slice A' n c']) ∧ vs.map plE = us.map plE ∧ vs.length = n ∧ Hp w w' [stoE A' c' n vs] := by
  obtain ⟨i0, hi0, hz0, hz1, hz2⟩ := info_parts Tryd.infoEntry
  obtain ⟨j0, hj0, hy0, hy1, hy2⟩ := info_parts Tryd.infoVer
  have hc := hr.2.1
  have hm := hr.2.2.1
  unfold maxLen at hm
  have H := Hp.nil w
  go_enter Tryd.func41, Tryd.ntmps41
  go_wp2_with fail
  have HH := Lib.hid H; clear H
  go_loopw [12] (fun i wr => ∃ (k : Nat) (A1 : Option Addr) (d : Nat) (ds : List Entry), k ≤ n ∧ i = .int .i64 k ∧ Hid (ds.length = k ∧ ds.map plE = (us.take k).map plE) ∧ Hid (Hp w wr ([row 62 3 (.slice A1 ds.length d) ds.length (ds.flatMap encEntry), box (w.heap.size + 1 + 1) 26 [.slice A1 ds.length d], box (w.heap.size + 1) 26 [.slice none 0 0], box w.heap.size 26 [.slice A n c]] ++ ds.flatMap entF))) (fun i _ => n - (intOf i).toNat)
  case atStart =>
    have H := HH.out
    exact ⟨0, none, 0, [], Nat.zero_le _, rfl, ⟨rfl, rfl⟩, Lib.hid (Hp.give (Hp.cons_nilRow (by repeat (first | (with_reducible exact H) | (with_reducible apply Hp.alloc) | (with_reducible apply Hp.set) | (with_reducible apply Hp.drew) | (with_reducible apply Hp.drewN) | (with_reducible apply Hp.bytesW) | (with_reducible exact Upd.here) | (with_reducible exact Upd.hereR) | (with_reducible apply Upd.there) | (with_reducible apply Sz.alloc) | (with_reducible apply Sz.set) | (with_reducible apply Sz.drew) | (with_reducible apply Sz.drewN) | (with_reducible apply Sz.bytesW) | (with_reducible assumption) | (with_reducible exact Sz.base _))) 62 3) [0, 1, 2, 3] (by decide) (by rfl))⟩
  case round =>
    clear HH
    obtain ⟨k, A1, d, ds, hk, rfl, HV, HP⟩ := hrel
    have H := HP.out
    simp only [List.cons_append, List.nil_append] at H
    have F := H.facts; simp only [Facts, NeF, box, row, reg, cellsF, rByte, ne_eq, true_and, and_true, Nat.reduceAdd, Nat.zero_add] at F
    by_cases hlt : k < n
    · obtain ⟨b2, off2, rfl, hb2⟩ := Rd.atV (enc := encEntry) hr hn encEntry_len (by omega)
      obtain ⟨d0, d1, d2⟩ := Rd.entAt hr hn (k := k) (by omega) rfl wr H.b
      have hkl : k < us.length := by omega
      have hk1 : (k : Int) < (n : Int) := by omega
      have hk0 : (0 : Int) ≤ (k : Int) := by omega
      have HK1 : Hid (k + 1 ≤ n ∧ n - (k + 1) < n - k) := ⟨by omega, by omega⟩
      have HPL : Hid ((us.take (k + 1)).map plE = ds.map plE ++ [plE us[k]]) := by show _ = _; rw [List.take_succ_eq_append_getElem hkl, List.map_append, ← HV.out.2]; rfl
      have hdk := hd us[k] (List.getElem_mem hkl)
      have hvk := hvl us[k] (List.getElem_mem hkl)
      have hlk := hdl us[k] (List.getElem_mem hkl)
      have hbw2 : b2 < wr.heap.size := Nat.lt_of_lt_of_le hb2 H.b.size
      have hbe2 : ¬ b2 = wr.heap.size ∧ ¬ wr.heap.size = b2 := by omega
      have hds : ds.length ≤ 1048576 := by have := HV.out.1; omega
      have hl : ds.length + 1 ≤ maxLen := by unfold maxLen; omega
      generalize us[k] = v at *
      clear hkl
      obtain ⟨path, first, vs, va, vc⟩ := v
      dsimp only at d0 d1 d2 hdk hvk hlk
      have hvr := hdk.1.1
      have hvd := hdk.2
      dsimp only at hvr hvd
      clear hdk
      have hvc := hvr.2.1
      have hvm := hvr.2.2.1
      unfold maxLen at hvm
      have hws : w.heap.size ≤ wr.heap.size := H.b.size
      go_wp2_with (at_make; refine wpList_make_full _ rfl _ _ 60 rfl (wr.heap.size + 1) 71 j0 _ 4 Tryd.underlying60 hj0 hy0 hy1 _ _ _ _ vs.length rfl rfl rfl rfl (by rw [hy2]; omega) (by unfold maxLen; omega) (by simp) ?_; intro w1 hown hgrow; replace H := H.alloc (t := 62) (cs := [.string path, .int .i64 first, .slice va vs.length vc]) (Sz.base wr); have hbel : Below (wr.heap.size + 1) (wr.alloc (.cells [.string path, .int .i64 first, .slice va vs.length vc].toArray 62)) w1 := ((Below.refl _ _).grown hgrow (by simp) (fun k hk => by cases hk)); have hlts := fun e he b hb => ((H.ok e he).lt b hb).2; replace H := H.step (by simpa using hbel); replace H := H.consOwn (Own.of hown) (by omega) (fun e he b hb => .inl (by simpa using hlts e he b hb)); clear hbel hlts hgrow; have F9 := H.facts; simp only [Facts, NeF, box, row, reg, cellsF, rByte, ne_eq, true_and, and_true, Nat.reduceAdd, Nat.zero_add] at F9)
      simp only [World.size_alloc] at H
      generalize (madeCells (Value.cells (.agg #[.slice none 0 0, .int .i64 0, .bool false, .bool false])) (vs.length * 4)).toList = cs0 at *
      clear F F9 hbw2 hbe2 hown hws d0 d1 d2
      generalize hg6 : wr.heap.size + 1 = g6 at *
      generalize hbe : wr.heap.size = be at *
      clear hg6 hbe
      have HH := Lib.hid H; clear H
      go_loopw [23] (fun i wi => ∃ (j : Nat) (dv : List Ver) (cs : List Value), j ≤ vs.length ∧ i = .int .i64 j ∧ Hid (dv.length = j ∧ dv.map plV = (vs.take j).map plV) ∧ Hid (cs.take (j * 4) = dv.flatMap encVer) ∧ Hid (Hp w wi ([row 71 4 (.slice (some ⟨g6, 0, none⟩) vs.length vs.length) vs.length cs, box be 62 [.string path, .int .i64 first, .slice va vs.length vc], row 62 3 (.slice A1 ds.length d) ds.length (ds.flatMap encEntry), box (w.heap.size + 1 + 1) 26 [.slice A1 ds.length d], box (w.heap.size + 1) 26 [.slice none 0 0], box w.heap.size 26 [.slice (some ⟨b2, off2, none⟩) n c]] ++ (dv.flatMap verF ++ ds.flatMap entF)))) (fun i _ => vs.length - (intOf i).toNat)
      case atStart =>
        have H := HH.out
        exact ⟨0, [], cs0, Nat.zero_le _, rfl, ⟨rfl, rfl⟩, by show _ = _; simp, Lib.hid H⟩
      case round =>
        clear HH
        obtain ⟨wi, hwi⟩ : ∃ x, x = wr := ⟨_, rfl⟩
        obtain ⟨j, dv, cs, hj, rfl, HV2, HC, HP2⟩ := hrel
        have H := HP2.out
        simp only [List.cons_append, List.nil_append] at H
        have F := H.facts; simp only [Facts, NeF, box, row, reg, cellsF, rByte, ne_eq, true_and, and_true, Nat.reduceAdd, Nat.zero_add] at F
        have hown := H.rowM (t := 71) (k := 4) (v := .slice (some ⟨g6, 0, none⟩) vs.length vs.length) (n := vs.length) (xs := cs) List.mem_cons_self
        by_cases hjl : j < vs.length
        · obtain ⟨b3, off3, rfl, hb3⟩ := Rd.atV (enc := encVer) hvr rfl encVer_len (by omega)
          obtain ⟨e0, e1, e2, e3⟩ := Rd.verAt hvr rfl (k := j) hjl rfl wr H.b
          have hj1 : (j : Int) < (vs.length : Int) := by omega
          have hj0 : (0 : Int) ≤ (j : Int) := by omega
          have HJ1 : Hid (j + 1 ≤ vs.length ∧ vs.length - (j + 1) < vs.length - j) := ⟨by omega, by omega⟩
          have HPL2 : Hid ((vs.take (j + 1)).map plV = dv.map plV ++ [plV vs[j]]) := by show _ = _; rw [List.take_succ_eq_append_getElem hjl, List.map_append, ← HV2.out.2]; rfl
          have hdv := hvd vs[j] (List.getElem_mem hjl)
          have hdl9 := hlk vs[j] (List.getElem_mem hjl)
          have hbw3 : b3 < wr.heap.size := Nat.lt_of_lt_of_le hb3 H.b.size
          have hbe3 : ¬ b3 = wr.heap.size ∧ ¬ wr.heap.size = b3 := by omega
          have hcl := hown.1
          have HT : Hid (∀ v' : Ver, (setL cs (j * 4) (encVer v')).take ((j + 1) * 4) = (dv ++ [v']).flatMap encVer) := fun v' => take_flat_new encVer_len HV2.out.1 hjl HC.out hcl v'
          clear hown hcl
          generalize vs[j] = v at *
          obtain ⟨data, da, dc, made, gone, dead⟩ := v
          dsimp only at e0 e1 e2 e3 hdv hdl9
          go_wp2_with (go_at_call 71; refine (bytesClone_hp da dc data _ (hdv.1.grow (Hp.b (by repeat (first | (with_reducible exact H) | (with_reducible apply Hp.alloc) | (with_reducible apply Hp.set) | (with_reducible apply Hp.drew) | (with_reducible apply Hp.drewN) | (with_reducible apply Hp.bytesW) | (with_reducible exact Upd.here) | (with_reducible exact Upd.hereR) | (with_reducible apply Upd.there) | (with_reducible apply Sz.alloc) | (with_reducible apply Sz.set) | (with_reducible apply Sz.drew) | (with_reducible apply Sz.drewN) | (with_reducible apply Sz.bytesW) | (with_reducible assumption) | (with_reducible exact Sz.base _))))) (by omega)).mono ?_; rintro e w5 ⟨A', c', rfl, h5⟩; replace H := Hp.call (by repeat (first | (with_reducible exact H) | (with_reducible apply Hp.alloc) | (with_reducible apply Hp.set) | (with_reducible apply Hp.drew) | (with_reducible apply Hp.drewN) | (with_reducible apply Hp.bytesW) | (with_reducible exact Upd.here) | (with_reducible exact Upd.hereR) | (with_reducible apply Upd.there) | (with_reducible apply Sz.alloc) | (with_reducible apply Sz.set) | (with_reducible apply Sz.drew) | (with_reducible apply Sz.drewN) | (with_reducible apply Sz.bytesW) | (with_reducible assumption) | (with_reducible exact Sz.base _))) h5; (try simp only [List.set_cons_zero, List.set_cons_succ, List.cons_append, List.nil_append] at H); clear h5 F; have F := H.facts; simp only [Facts, NeF, box, row, reg, cellsF, rByte, ne_eq, true_and, and_true, Nat.reduceAdd, Nat.zero_add] at F; have hown1 := H.rowM (t := 71) (k := 4) (v := .slice (some ⟨g6, 0, none⟩) vs.length vs.length) (n := vs.length) (xs := cs) (by repeat (first | (with_reducible exact List.mem_cons_self) | (with_reducible apply List.mem_cons_of_mem))); obtain ⟨v0, hv0, f0⟩ := own_cell hown1 (j := j * 4 + 0) (by omega); have z0 := hown1.frozenAt (j * 4 + 0); obtain ⟨v1, hv1, f1⟩ := own_cell hown1 (j := j * 4 + 1) (by omega); have z1 := hown1.frozenAt (j * 4 + 1); obtain ⟨v2, hv2, f2⟩ := own_cell hown1 (j := j * 4 + 2) (by omega); have z2 := hown1.frozenAt (j * 4 + 2); obtain ⟨v3, hv3, f3⟩ := own_cell hown1 (j := j * 4 + 3) (by omega); have z3 := hown1.frozenAt (j * 4 + 3); simp only [Nat.add_zero] at f0 z0; clear hv0 hv1 hv2 hv3 hown1; have hg1 := H.ne_rowK (f := wr.heap.size) (g := g6) (n := vs.length) (c := vs.length) (m := vs.length) (k := 4) (e := 71) (xs := cs) (by repeat (first | (with_reducible exact Sel.nil) | (with_reducible apply Sel.cons) | (with_reducible exact Del.here) | (with_reducible apply Del.there))))
          go_roundw
          case rel =>
            refine ⟨j + 1, dv ++ [(⟨data, A', c', made, gone, dead⟩ : Ver)], (((cs.set (j * 4) (.slice A' data.length c')).set (j * 4 + 1) (.int .i64 made)).set (j * 4 + 2) (.bool gone)).set (j * 4 + 3) (.bool dead), HJ1.out.1, by go_num, ⟨by rw [List.length_append, HV2.out.1]; rfl, by rw [HPL2.out, List.map_append]; rfl⟩, Lib.hid (HT.out ⟨data, A', c', made, gone, dead⟩), Lib.hid ?_⟩
            rw [List.flatMap_append, List.flatMap_cons, List.flatMap_nil, List.append_nil]
            show Hp w _ ([_, _, _, _, _, _] ++ ((dv.flatMap verF ++ [rByte A' c' data]) ++ ds.flatMap entF))
            refine Hp.snoc2 ?_
            show Hp w _ (_ :: _ :: _ :: _ :: _ :: _ :: rByte A' c' data :: (dv.flatMap verF ++ ds.flatMap entF))
            refine Hp.sel (by repeat (first | (with_reducible exact H) | (with_reducible apply Hp.alloc) | (with_reducible apply Hp.set) | (with_reducible apply Hp.drew) | (with_reducible apply Hp.drewN) | (with_reducible apply Hp.bytesW) | (with_reducible exact Upd.here) | (with_reducible exact Upd.hereR) | (with_reducible apply Upd.there) | (with_reducible apply Sz.alloc) | (with_reducible apply Sz.set) | (with_reducible apply Sz.drew) | (with_reducible apply Sz.drewN) | (with_reducible apply Sz.bytesW) | (with_reducible assumption) | (with_reducible exact Sz.base _))) ?_
            (try simp only [List.set_cons_zero, List.set_cons_succ])
            (repeat (first | (with_reducible exact Sel.nil) | (with_reducible apply Sel.cons) | (with_reducible exact Del.here) | (with_reducible apply Del.there))); refine Sel.tl ?_; (repeat (first | (with_reducible exact Tl.here) | (with_reducible apply Tl.there)))
          case measure => have := HJ1.out.2; simp [intOf]; omega
        · have hjn : j = vs.length := by omega
          have HCF : Hid (cs = dv.flatMap encVer) := by
            have h2 := HC.out
            rw [List.take_of_length_le (by rw [hown.1]; omega)] at h2
            exact h2
          have HVF : Hid (dv.map plV = vs.map plV) := by show _ = _; rw [HV2.out.2, List.take_of_length_le (by omega)]
          have HVL : Hid (dv.length = vs.length) := by show _ = _; rw [HV2.out.1, hjn]
          have HPE : Hid (plE ⟨path, first, dv, some ⟨g6, 0, none⟩, vs.length⟩ = plE ⟨path, first, vs, va, vc⟩) := by show _ = _; simp only [plE]; rw [HVF.out]
          have HE : Hid ((ds.flatMap encEntry ++ [.string path, .int .i64 first, .slice (some ⟨g6, 0, none⟩) vs.length vs.length]) = (ds ++ [(⟨path, first, dv, some ⟨g6, 0, none⟩, vs.length⟩ : Entry)]).flatMap encEntry) := by show _ = _; rw [List.flatMap_append]; simp [encEntry, HVL.out]
          have hj1 : ¬ (j : Int) < (vs.length : Int) := by omega
          clear hjn hown hjl
          go_wp2_with (at_builtin; refine wpList_append_lies _ (by rfl) _ _ 24 (by rfl) w.heap.size 62 i0 _ 3 _ Tryd.underlying24 hi0 hz0 hz1 hz2 (by rfl) (by decide) (.slice A1 (ds.length) d) (ds.length) _ (by rfl) (Hp.rowM (by repeat (first | (with_reducible exact H) | (with_reducible apply Hp.alloc) | (with_reducible apply Hp.set) | (with_reducible apply Hp.drew) | (with_reducible apply Hp.drewN) | (with_reducible apply Hp.bytesW) | (with_reducible exact Upd.here) | (with_reducible exact Upd.hereR) | (with_reducible apply Upd.there) | (with_reducible apply Sz.alloc) | (with_reducible apply Sz.set) | (with_reducible apply Sz.drew) | (with_reducible apply Sz.drewN) | (with_reducible apply Sz.bytesW) | (with_reducible assumption) | (with_reducible exact Sz.base _))) (by repeat (first | (with_reducible exact List.mem_cons_self) | (with_reducible apply List.mem_cons_of_mem)))) ⟨wr.heap.size, 0, none⟩ 1 1 ([.string path, .int .i64 first, .slice (some ⟨g6, 0, none⟩) vs.length vs.length]) (by rfl) (by rfl) (Hp.news (by repeat (first | (with_reducible exact H) | (with_reducible apply Hp.alloc) | (with_reducible apply Hp.set) | (with_reducible apply Hp.drew) | (with_reducible apply Hp.drewN) | (with_reducible apply Hp.bytesW) | (with_reducible exact Upd.here) | (with_reducible exact Upd.hereR) | (with_reducible apply Upd.there) | (with_reducible apply Sz.alloc) | (with_reducible apply Sz.set) | (with_reducible apply Sz.drew) | (with_reducible apply Sz.drewN) | (with_reducible apply Sz.bytesW) | (with_reducible assumption) | (with_reducible exact Sz.base _))) 0 (by rfl)) (oneNew _ _ _ _ _) (by decide) hl (by omega) (Hp.b (by repeat (first | (with_reducible exact H) | (with_reducible apply Hp.alloc) | (with_reducible apply Hp.set) | (with_reducible apply Hp.drew) | (with_reducible apply Hp.drewN) | (with_reducible apply Hp.bytesW) | (with_reducible exact Upd.here) | (with_reducible exact Upd.hereR) | (with_reducible apply Upd.there) | (with_reducible apply Sz.alloc) | (with_reducible apply Sz.set) | (with_reducible apply Sz.drew) | (with_reducible apply Sz.drewN) | (with_reducible apply Sz.bytesW) | (with_reducible assumption) | (with_reducible exact Sz.base _)))).size _ rfl ?_; intro g cap wa hown hgrow hat hlt1; have H5 := Hp.appM (by repeat (first | (with_reducible exact H) | (with_reducible apply Hp.alloc) | (with_reducible apply Hp.set) | (with_reducible apply Hp.drew) | (with_reducible apply Hp.drewN) | (with_reducible apply Hp.bytesW) | (with_reducible exact Upd.here) | (with_reducible exact Upd.hereR) | (with_reducible apply Upd.there) | (with_reducible apply Sz.alloc) | (with_reducible apply Sz.set) | (with_reducible apply Sz.drew) | (with_reducible apply Sz.drewN) | (with_reducible apply Sz.bytesW) | (with_reducible assumption) | (with_reducible exact Sz.base _))) (by repeat (first | (with_reducible exact Rep.here) | (with_reducible apply Rep.there))) hown hgrow hat rfl hlt1; (try simp only [List.set_cons_zero, List.set_cons_succ, List.cons_append, List.nil_append] at H5); have FA := H5.facts; simp only [Facts, NeF, box, row, reg, cellsF, rByte, ne_eq, true_and, and_true, Nat.reduceAdd, Nat.zero_add] at FA)
          go_roundw
          case rel =>
            refine ⟨k + 1, some ⟨g, 0, none⟩, cap, ds ++ [(⟨path, first, dv, some ⟨g6, 0, none⟩, vs.length⟩ : Entry)], HK1.out.1, by go_num, ⟨by rw [List.length_append, HV.out.1]; rfl, by rw [HPL.out, List.map_append, ← HPE.out]; rfl⟩, Lib.hid ?_⟩
            refine Hp.snocT (f := entF) ?_
            rw [← HE.out, List.length_append, List.length_singleton]
            show Hp w _ (_ :: _ :: _ :: _ :: (row 71 4 (.slice (some ⟨g6, 0, none⟩) dv.length vs.length) dv.length (dv.flatMap encVer) :: (dv.flatMap verF ++ ds.flatMap entF)))
            rw [HVL.out, ← HCF.out]
            refine Hp.sel (by repeat (first | (with_reducible exact H5) | (with_reducible apply Hp.alloc) | (with_reducible apply Hp.set) | (with_reducible apply Hp.drew) | (with_reducible apply Hp.drewN) | (with_reducible apply Hp.bytesW) | (with_reducible exact Upd.here) | (with_reducible exact Upd.hereR) | (with_reducible apply Upd.there) | (with_reducible apply Sz.alloc) | (with_reducible apply Sz.set) | (with_reducible apply Sz.drew) | (with_reducible apply Sz.drewN) | (with_reducible apply Sz.bytesW) | (with_reducible assumption) | (with_reducible exact Sz.base _))) ?_
            (try simp only [List.set_cons_zero, List.set_cons_succ])
            (repeat (first | (with_reducible exact Sel.nil) | (with_reducible apply Sel.cons) | (with_reducible exact Del.here) | (with_reducible apply Del.there))); refine Sel.tl ?_; (repeat (first | (with_reducible exact Tl.here) | (with_reducible apply Tl.there)))
          case measure => have := HK1.out.2; simp [intOf]; omega
    · have hkn : k = n := by omega
      have HG : Hid (ds.map plE = us.map plE) := by show _ = _; rw [HV.out.2, List.take_of_length_le (by omega)]
      have hk1 : ¬ (k : Int) < (n : Int) := by omega
      obtain rfl : n = ds.length := by have := HV.out.1; omega
      clear hkn
      go_wp2_with fail
      refine bodyPost_ret (v := .agg #[.slice A1 ds.length d]) (by simp [results, Tryd.results41, go_sem, F] <;> omega) rfl ⟨A1, d, rfl, ds, HG.out, rfl, ?_⟩
      refine Hp.pack [] (stoR A1 d ds.length ds) ?_
      show Hp w _ (row 62 3 (.slice A1 ds.length d) ds.length (ds.flatMap encEntry) :: ds.flatMap entF)
      refine Hp.sel (by repeat (first | (with_reducible exact H) | (with_reducible apply Hp.alloc) | (with_reducible apply Hp.set) | (with_reducible apply Hp.drew) | (with_reducible apply Hp.drewN) | (with_reducible apply Hp.bytesW) | (with_reducible exact Upd.here) | (with_reducible exact Upd.hereR) | (with_reducible apply Upd.there) | (with_reducible apply Sz.alloc) | (with_reducible apply Sz.set) | (with_reducible apply Sz.drew) | (with_reducible apply Sz.drewN) | (with_reducible apply Sz.bytesW) | (with_reducible assumption) | (with_reducible exact Sz.base _))) ?_
      (try simp only [List.set_cons_zero, List.set_cons_succ])
      (repeat (first | (with_reducible exact Sel.nil) | (with_reducible apply Sel.cons) | (with_reducible exact Del.here) | (with_reducible apply Del.there))); refine Sel.tl ?_; (repeat (first | (with_reducible exact Tl.here) | (with_reducible apply Tl.there)))
end Go.Proofs.YtklmcbabpncfmaaDoor

/- Stores: the text (the reference's). No condition. -/
import Derived.Test.YtiooaephjjkgdaaDoorStoreA
import Derived.Test.YtiooaephjjkgdaaDoorKvP
import Derived.Test.YtiooaephjjkgdaaDoorNumW
import Derived.Deep.RegionHeld3
namespace Go.Proofs.YtiooaephjjkgdaaDoor
open Go.RowKit
set_option linter.unusedVariables false
set_option linter.unusedSimpArgs false
set_option maxHeartbeats 32000000 in
set_option maxRecDepth 10000 in
theorem specKvText_any (A : Option Addr) (n c : Nat) (es : List Entry) (w : World) (hr : Rd w w.heap.size 3 A n c (es.flatMap encEntry)) (hn : es.length = n) (hsz : ∀ u ∈ es, u.path.size ≤ maxLen) (hd : ∀ u ∈ es, DE 0 w u) :
    Calls Tryd.prog 39 #[.agg #[.slice A n c]] w fun e w' => e = .returned (.string (kvS es)) ∧ Below w.heap.size w w' := by
  have hc := hr.2.1
  have hm := hr.2.2.1
  unfold maxLen at hm
  have H := Hp.nil w
  cases h1 : storeOk es with
  | false =>
    have HR : Hid (kvS es = ⟨#[]⟩) := by show _ = _; rw [kvS, if_neg (by rw [h1]; decide)]
    go_enter Tryd.func39, Tryd.ntmps39
    go_wp2_with (go_at_call 17; refine (specStoreOk_any A n c es _ (hr.grow (Hp.b (by repeat (first | (with_reducible exact H) | (with_reducible apply Hp.alloc) | (with_reducible apply Hp.set) | (with_reducible apply Hp.drew) | (with_reducible apply Hp.drewN) | (with_reducible apply Hp.bytesW) | (with_reducible exact Upd.here) | (with_reducible exact Upd.hereR) | (with_reducible apply Upd.there) | (with_reducible apply Sz.alloc) | (with_reducible apply Sz.set) | (with_reducible apply Sz.drew) | (with_reducible apply Sz.drewN) | (with_reducible apply Sz.bytesW) | (with_reducible assumption) | (with_reducible exact Sz.base _))))) hn hsz (fun u hu => (hd u hu).step (Hp.b (by repeat (first | (with_reducible exact H) | (with_reducible apply Hp.alloc) | (with_reducible apply Hp.set) | (with_reducible apply Hp.drew) | (with_reducible apply Hp.drewN) | (with_reducible apply Hp.bytesW) | (with_reducible exact Upd.here) | (with_reducible exact Upd.hereR) | (with_reducible apply Upd.there) | (with_reducible apply Sz.alloc) | (with_reducible apply Sz.set) | (with_reducible apply Sz.drew) | (with_reducible apply Sz.drewN) | (with_reducible apply Sz.bytesW) | (with_reducible assumption) | (with_reducible exact Sz.base _)))))).mono ?_; rintro e w1 ⟨rfl, hb1⟩; rw [h1]; replace H := Hp.step (by repeat (first | (with_reducible exact H) | (with_reducible apply Hp.alloc) | (with_reducible apply Hp.set) | (with_reducible apply Hp.drew) | (with_reducible apply Hp.drewN) | (with_reducible apply Hp.bytesW) | (with_reducible exact Upd.here) | (with_reducible exact Upd.hereR) | (with_reducible apply Upd.there) | (with_reducible apply Sz.alloc) | (with_reducible apply Sz.set) | (with_reducible apply Sz.drew) | (with_reducible apply Sz.drewN) | (with_reducible apply Sz.bytesW) | (with_reducible assumption) | (with_reducible exact Sz.base _))) hb1; (try simp only [List.set_cons_zero, List.set_cons_succ, List.cons_append, List.nil_append] at H); clear hb1; have F := H.facts; simp only [Facts, NeF, box, row, reg, cellsF, ne_eq, true_and, and_true, Nat.reduceAdd, Nat.zero_add] at F)
    go_ret
    exact ⟨by rw [HR.out]; rfl, Hp.b (by repeat (first | (with_reducible exact H) | (with_reducible apply Hp.alloc) | (with_reducible apply Hp.set) | (with_reducible apply Hp.drew) | (with_reducible apply Hp.drewN) | (with_reducible apply Hp.bytesW) | (with_reducible exact Upd.here) | (with_reducible exact Upd.hereR) | (with_reducible apply Upd.there) | (with_reducible apply Sz.alloc) | (with_reducible apply Sz.set) | (with_reducible apply Sz.drew) | (with_reducible apply Sz.drewN) | (with_reducible apply Sz.bytesW) | (with_reducible assumption) | (with_reducible exact Sz.base _)))⟩
  | true =>
  have HR : Hid (kvS es = ⟨(kvL es).toArray⟩) := by show _ = _; rw [kvS, if_pos h1]
  obtain ⟨h60', hok⟩ := ok_entry h1
  have h60 : n ≤ 60 := by omega
  have HOK := Lib.hid hok; clear hok h60'
  go_enter Tryd.func39, Tryd.ntmps39
  go_wp2_with (go_at_call 17; refine (specStoreOk_any A n c es _ (hr.grow (Hp.b (by repeat (first | (with_reducible exact H) | (with_reducible apply Hp.alloc) | (with_reducible apply Hp.set) | (with_reducible apply Hp.drew) | (with_reducible apply Hp.drewN) | (with_reducible apply Hp.bytesW) | (with_reducible exact Upd.here) | (with_reducible exact Upd.hereR) | (with_reducible apply Upd.there) | (with_reducible apply Sz.alloc) | (with_reducible apply Sz.set) | (with_reducible apply Sz.drew) | (with_reducible apply Sz.drewN) | (with_reducible apply Sz.bytesW) | (with_reducible assumption) | (with_reducible exact Sz.base _))))) hn hsz (fun u hu => (hd u hu).step (Hp.b (by repeat (first | (with_reducible exact H) | (with_reducible apply Hp.alloc) | (with_reducible apply Hp.set) | (with_reducible apply Hp.drew) | (with_reducible apply Hp.drewN) | (with_reducible apply Hp.bytesW) | (with_reducible exact Upd.here) | (with_reducible exact Upd.hereR) | (with_reducible apply Upd.there) | (with_reducible apply Sz.alloc) | (with_reducible apply Sz.set) | (with_reducible apply Sz.drew) | (with_reducible apply Sz.drewN) | (with_reducible apply Sz.bytesW) | (with_reducible assumption) | (with_reducible exact Sz.base _)))))).mono ?_; rintro e w1 ⟨rfl, hb1⟩; rw [h1]; replace H := Hp.step (by repeat (first | (with_reducible exact H) | (with_reducible apply Hp.alloc) | (with_reducible apply Hp.set) | (with_reducible apply Hp.drew) | (with_reducible apply Hp.drewN) | (with_reducible apply Hp.bytesW) | (with_reducible exact Upd.here) | (with_reducible exact Upd.hereR) | (with_reducible apply Upd.there) | (with_reducible apply Sz.alloc) | (with_reducible apply Sz.set) | (with_reducible apply Sz.drew) | (with_reducible apply Sz.drewN) | (with_reducible apply Sz.bytesW) | (with_reducible assumption) | (with_reducible exact Sz.base _))) hb1; (try simp only [List.set_cons_zero, List.set_cons_succ, List.cons_append, List.nil_append] at H); clear hb1; have F := H.facts; simp only [Facts, NeF, box, row, reg, cellsF, ne_eq, true_and, and_true, Nat.reduceAdd, Nat.zero_add] at F)
  clear h1
  have HH := Lib.hid H; clear H
  go_loopw [4, 3] (fun i s wr => ∃ (k : Nat) (t : List UInt8), k ≤ n ∧ i = .int .i64 k ∧ s = .string ⟨t.toArray⟩ ∧ Hid (kvL (es.take k) = t) ∧ t.length ≤ k * 200 ∧ Hid (Hp w wr [box w.heap.size 40 [.slice A n c]])) (fun i _ _ => n - (intOf i).toNat)
  case atStart =>
    have H := HH.out
    exact ⟨0, [], Nat.zero_le _, rfl, rfl, by show _ = _; simp [kvL], by simp, Lib.hid (by refine Hp.sel (by repeat (first | (with_reducible exact H) | (with_reducible apply Hp.alloc) | (with_reducible apply Hp.set) | (with_reducible apply Hp.drew) | (with_reducible apply Hp.drewN) | (with_reducible apply Hp.bytesW) | (with_reducible exact Upd.here) | (with_reducible exact Upd.hereR) | (with_reducible apply Upd.there) | (with_reducible apply Sz.alloc) | (with_reducible apply Sz.set) | (with_reducible apply Sz.drew) | (with_reducible apply Sz.drewN) | (with_reducible apply Sz.bytesW) | (with_reducible assumption) | (with_reducible exact Sz.base _))) ?_; (try simp only [List.set_cons_zero, List.set_cons_succ]); exact (by repeat (first | (with_reducible exact Sel.nil) | (with_reducible apply Sel.cons) | (with_reducible exact Del.here) | (with_reducible apply Del.there))))⟩
  case round =>
    clear HH F
    obtain ⟨k, t, hk, rfl, rfl, HT, htl, HP⟩ := hrel
    have H := HP.out
    have F := H.facts; simp only [Facts, NeF, box, row, reg, cellsF, ne_eq, true_and, and_true, Nat.reduceAdd, Nat.zero_add] at F
    by_cases hlt : k < n
    · obtain ⟨b, off, rfl, hb⟩ := Rd.atV (enc := encEntry) hr hn encEntry_len (by omega)
      have hcs : ∀ (W : World) (L : List Ent), Hp w W L → _ := fun W L h => Rd.entAt hr hn (k := k) (by omega) rfl W h.b
      have hdr : DE 0 w (es[k]'(by omega)) := hd _ (List.getElem_mem _)
      have hk1 : (k : Int) < (n : Int) := by omega
      have hk0 : (0 : Int) ≤ (k : Int) := by omega
      have hok := HOK.out _ (List.getElem_mem (show k < es.length by omega))
      have HN : Hid (kvL (es.take (k + 1)) = t ++ entL (es[k]'(by omega))) := by show _ = _; rw [kvL_snoc (by omega), HT.out]
      have HK1 : Hid (k + 1 ≤ n ∧ n - (k + 1) < n - k) := ⟨by omega, by omega⟩
      have htk : t.length ≤ 12000 := by omega
      have HTL := Lib.hid htl; clear htl
      generalize (es[k]'(by omega)) = l at *
      have hvr := hdr.1.1
      clear hdr
      have HCS := Lib.hid hcs
      clear hcs
      obtain ⟨c0, c1, c2⟩ := HCS.out _ _ H
      obtain ⟨path, first, vs, va, vc⟩ := l
      dsimp only at c0 c1 c2 hok hvr
      obtain ⟨hp1, hf1, hv1, hv2, hall⟩ := hok
      obtain ⟨pa, rfl⟩ : ∃ p : List UInt8, path = ⟨p.toArray⟩ := ⟨path.data.toList, by simp⟩
      have hpa : pa.length ≤ 120 := by simpa [ByteArray.size] using hp1
      obtain ⟨fm, rfl⟩ := Int.eq_ofNat_of_zero_le (show 0 ≤ first by omega)
      have hfm : fm ≤ 1000000 := by omega
      clear hp1 hf1 hall
      obtain ⟨df, hdf⟩ : ∃ dn, Go.Lib.decDigits fm = dn := ⟨_, rfl⟩
      have hdfl : df.length ≤ 10 := by rw [← hdf]; exact dec_len_le 9 _ (by show fm < 10000000000; omega)
      obtain ⟨dv, hdv⟩ : ∃ dn, Go.Lib.decDigits vs.length = dn := ⟨_, rfl⟩
      have hdvl : dv.length ≤ 10 := by rw [← hdv]; exact dec_len_le 9 _ (by show vs.length < 10000000000; omega)
      obtain ⟨t0, ht0⟩ : ∃ t0, t0 = pa ++ 32 :: (df ++ 32 :: (dv ++ [32])) := ⟨_, rfl⟩
      have HT0 := Lib.hid ht0
      have ht0l : t0.length ≤ 150 := by rw [ht0]; simp; omega
      clear ht0
      have HE : Hid (headF ⟨⟨pa.toArray⟩, (fm : Int), vs, va, vc⟩ = t0) := by
        show _ = _
        rw [HT0.out]
        simp [headF, Int.toNat_natCast, hdf, hdv]
      have hbw : b < wr.heap.size := Nat.lt_of_lt_of_le hb H.b.size
      have hbe : ¬ b = wr.heap.size ∧ ¬ wr.heap.size = b := by omega
      go_wp2_with fail
      replace H := H.alloc (t := 74) (cs := [.string ⟨pa.toArray⟩, .int .i64 fm, .slice va vs.length vc]) (Sz.base wr)
      clear F; have F := H.facts; simp only [Facts, NeF, box, row, reg, cellsF, ne_eq, true_and, and_true, Nat.reduceAdd, Nat.zero_add] at F
      clear F
      (refine wp_region_quiet (C := fun W => Hp w W [box wr.heap.size 74 [.string ⟨pa.toArray⟩, .int .i64 fm, .slice va vs.length vc], box w.heap.size 40 [.slice (some ⟨b, off, none⟩) n c]]) (by kernel_rfl) (by kernel_rfl) (by show Hp _ (World.drew _) _; exact (by repeat (first | (with_reducible exact H) | (with_reducible apply Hp.alloc) | (with_reducible apply Hp.set) | (with_reducible apply Hp.drew) | (with_reducible apply Hp.drewN) | (with_reducible apply Hp.bytesW) | (with_reducible exact Upd.here) | (with_reducible exact Upd.hereR) | (with_reducible apply Upd.there) | (with_reducible apply Sz.alloc) | (with_reducible apply Sz.set) | (with_reducible apply Sz.drew) | (with_reducible apply Sz.drewN) | (with_reducible apply Sz.bytesW) | (with_reducible assumption) | (with_reducible exact Sz.base _)))) ?_; (repeat (first | go_big_quiet_skip | (refine BigFrame.wpQuiet_want (by rfl) (fun K hK => ?_); unfold Oper.quiet; apply Exists.intro; refine ⟨fun W hW => ?_, hK _ ?_⟩; (focus (have G := hW.facts; simp only [Facts, NeF, box, row, reg, cellsF, ne_eq, true_and, and_true, Nat.reduceAdd, Nat.zero_add] at G; skip; go_simp; first | rfl | (rw [if_neg (by simp; omega)]; exact ⟨rfl, rfl⟩) | (rw [if_neg (by omega)]; exact ⟨rfl, rfl⟩) | (go_at_call 67; refine (l01Num_any _ _ (by omega)).mono ?_; rintro e w' ⟨rfl, hb1⟩; (first | rw [hdf] | rw [hdv]); exact ⟨rfl, hW.step hb1⟩))); clear hK K; simp only [Act.put, List.setIfInBounds_toArray, List.set_cons_zero, List.set_cons_succ]))); refine wpQuiet_nil ?_; intro wq H; have F := H.facts; simp only [Facts, NeF, box, row, reg, cellsF, ne_eq, true_and, and_true, Nat.reduceAdd, Nat.zero_add] at F)
      all_goals
        go_wp2_with fail
        clear F
        generalize hB4 : wr.heap.size = b4 at *
        clear hB4
        have HH := Lib.hid H; clear H
        go_loopw [7, 6] (fun i s wi => ∃ (j : Nat) (t2 : List UInt8), j ≤ vs.length ∧ i = .int .i64 j ∧ s = .string ⟨t2.toArray⟩ ∧ Hid (t0 ++ (vs.take j).map verC = t2) ∧ t2.length ≤ 150 + j ∧ Hid (Hp w wi [box b4 74 [.string ⟨pa.toArray⟩, .int .i64 fm, .slice va vs.length vc], box w.heap.size 40 [.slice (some ⟨b, off, none⟩) n c]])) (fun i _ _ => vs.length - (intOf i).toNat)
        case atStart =>
          have H := HH.out
          exact ⟨0, t0, Nat.zero_le _, rfl, congrArg Value.string (ByteArray.ext (by rw [HT0.out]; simp)), by show _ = _; simp, by omega, Lib.hid (by refine Hp.sel (by repeat (first | (with_reducible exact H) | (with_reducible apply Hp.alloc) | (with_reducible apply Hp.set) | (with_reducible apply Hp.drew) | (with_reducible apply Hp.drewN) | (with_reducible apply Hp.bytesW) | (with_reducible exact Upd.here) | (with_reducible exact Upd.hereR) | (with_reducible apply Upd.there) | (with_reducible apply Sz.alloc) | (with_reducible apply Sz.set) | (with_reducible apply Sz.drew) | (with_reducible apply Sz.drewN) | (with_reducible apply Sz.bytesW) | (with_reducible assumption) | (with_reducible exact Sz.base _))) ?_; (try simp only [List.set_cons_zero, List.set_cons_succ]); exact (by repeat (first | (with_reducible exact Sel.nil) | (with_reducible apply Sel.cons) | (with_reducible exact Del.here) | (with_reducible apply Del.there))))⟩
        case round =>
          clear HH
          obtain ⟨wi, hwi⟩ : ∃ x, x = wr := ⟨_, rfl⟩
          subst hwi
          obtain ⟨j, t2, hj, rfl, rfl, HT2, ht2l, HP2⟩ := hrel
          have H := HP2.out
          have F := H.facts; simp only [Facts, NeF, box, row, reg, cellsF, ne_eq, true_and, and_true, Nat.reduceAdd, Nat.zero_add] at F
          by_cases hjl : j < vs.length
          · obtain ⟨b2, off2, rfl, hb2⟩ := Rd.atV (enc := encVer) hvr rfl encVer_len (by omega)
            have hvs : ∀ (W : World) (L : List Ent), Hp w W L → _ := fun W L h => Rd.verAt hvr rfl (k := j) hjl rfl W h.b
            have HVS := Lib.hid hvs; clear hvs
            obtain ⟨d0, d1, d2, d3⟩ := HVS.out _ _ H
            have hj1 : (j : Int) < (vs.length : Int) := by omega
            have hj0 : (0 : Int) ≤ (j : Int) := by omega
            have hbw2 : b2 < wi.heap.size := Nat.lt_of_lt_of_le hb2 H.b.size
            have hbe2 : ¬ b2 = wi.heap.size ∧ ¬ wi.heap.size = b2 := by omega
            have HJ1 : Hid (j + 1 ≤ vs.length ∧ vs.length - (j + 1) < vs.length - j ∧ t2.length + 1 ≤ 150 + (j + 1)) := ⟨by omega, by omega, by omega⟩
            have HN2 : Hid (t0 ++ (vs.take (j + 1)).map verC = t2 ++ [verC vs[j]]) := by show _ = _; rw [verC_snoc hjl, ← List.append_assoc, HT2.out]
            have ht2k : t2.length ≤ 160 := by omega
            clear ht2l
            generalize vs[j] = v at *
            obtain ⟨data, da, dc, made, gone, dead⟩ := v
            dsimp only at d0 d1 d2 d3
            cases dead with
            | true =>
              have HM : Hid (t0 ++ (vs.take (j + 1)).map verC = t2 ++ [100]) := HN2
              clear HN2 HT2
              go_wp2_with fail
              go_roundw
              case rel => exact ⟨j + 1, t2 ++ [100], HJ1.out.1, by go_num, congrArg Value.string (ByteArray.ext (by simp)), HM, by have := HJ1.out.2.2; simpa using this, Lib.hid (by refine Hp.sel (by repeat (first | (with_reducible exact H) | (with_reducible apply Hp.alloc) | (with_reducible apply Hp.set) | (with_reducible apply Hp.drew) | (with_reducible apply Hp.drewN) | (with_reducible apply Hp.bytesW) | (with_reducible exact Upd.here) | (with_reducible exact Upd.hereR) | (with_reducible apply Upd.there) | (with_reducible apply Sz.alloc) | (with_reducible apply Sz.set) | (with_reducible apply Sz.drew) | (with_reducible apply Sz.drewN) | (with_reducible apply Sz.bytesW) | (with_reducible assumption) | (with_reducible exact Sz.base _))) ?_; (try simp only [List.set_cons_zero, List.set_cons_succ]); exact (by repeat (first | (with_reducible exact Sel.nil) | (with_reducible apply Sel.cons) | (with_reducible exact Del.here) | (with_reducible apply Del.there))))⟩
              case measure => have := HJ1.out.2.1; simp [intOf]; omega
            | false =>
            cases gone with
            | true =>
              have HM : Hid (t0 ++ (vs.take (j + 1)).map verC = t2 ++ [103]) := HN2
              clear HN2 HT2
              go_wp2_with fail
              go_roundw
              case rel => exact ⟨j + 1, t2 ++ [103], HJ1.out.1, by go_num, congrArg Value.string (ByteArray.ext (by simp)), HM, by have := HJ1.out.2.2; simpa using this, Lib.hid (by refine Hp.sel (by repeat (first | (with_reducible exact H) | (with_reducible apply Hp.alloc) | (with_reducible apply Hp.set) | (with_reducible apply Hp.drew) | (with_reducible apply Hp.drewN) | (with_reducible apply Hp.bytesW) | (with_reducible exact Upd.here) | (with_reducible exact Upd.hereR) | (with_reducible apply Upd.there) | (with_reducible apply Sz.alloc) | (with_reducible apply Sz.set) | (with_reducible apply Sz.drew) | (with_reducible apply Sz.drewN) | (with_reducible apply Sz.bytesW) | (with_reducible assumption) | (with_reducible exact Sz.base _))) ?_; (try simp only [List.set_cons_zero, List.set_cons_succ]); exact (by repeat (first | (with_reducible exact Sel.nil) | (with_reducible apply Sel.cons) | (with_reducible exact Del.here) | (with_reducible apply Del.there))))⟩
              case measure => have := HJ1.out.2.1; simp [intOf]; omega
            | false =>
              have HM : Hid (t0 ++ (vs.take (j + 1)).map verC = t2 ++ [118]) := HN2
              clear HN2 HT2
              go_wp2_with fail
              go_roundw
              case rel => exact ⟨j + 1, t2 ++ [118], HJ1.out.1, by go_num, congrArg Value.string (ByteArray.ext (by simp)), HM, by have := HJ1.out.2.2; simpa using this, Lib.hid (by refine Hp.sel (by repeat (first | (with_reducible exact H) | (with_reducible apply Hp.alloc) | (with_reducible apply Hp.set) | (with_reducible apply Hp.drew) | (with_reducible apply Hp.drewN) | (with_reducible apply Hp.bytesW) | (with_reducible exact Upd.here) | (with_reducible exact Upd.hereR) | (with_reducible apply Upd.there) | (with_reducible apply Sz.alloc) | (with_reducible apply Sz.set) | (with_reducible apply Sz.drew) | (with_reducible apply Sz.drewN) | (with_reducible apply Sz.bytesW) | (with_reducible assumption) | (with_reducible exact Sz.base _))) ?_; (try simp only [List.set_cons_zero, List.set_cons_succ]); exact (by repeat (first | (with_reducible exact Sel.nil) | (with_reducible apply Sel.cons) | (with_reducible exact Del.here) | (with_reducible apply Del.there))))⟩
              case measure => have := HJ1.out.2.1; simp [intOf]; omega
          · have HF : Hid (t0 ++ vs.map verC = t2) := by show _ = _; have h9 := HT2.out; rw [List.take_of_length_le (by omega)] at h9; exact h9
            have HM : Hid (kvL (es.take (k + 1)) = t ++ (t2 ++ [10])) := by show _ = _; rw [HN.out, entL, HE.out, HF.out]
            have HL : Hid ((t ++ (t2 ++ [10])).length ≤ (k + 1) * 200) := by show _ ≤ _; have := HTL.out; simp; omega
            have ht2k : t2.length ≤ 160 := by omega
            go_wp2_with fail
            go_roundw
            case rel => exact ⟨k + 1, t ++ (t2 ++ [10]), HK1.out.1, by go_num, congrArg Value.string (ByteArray.ext (by simp)), HM, HL.out, Lib.hid (by refine Hp.sel (by repeat (first | (with_reducible exact H) | (with_reducible apply Hp.alloc) | (with_reducible apply Hp.set) | (with_reducible apply Hp.drew) | (with_reducible apply Hp.drewN) | (with_reducible apply Hp.bytesW) | (with_reducible exact Upd.here) | (with_reducible exact Upd.hereR) | (with_reducible apply Upd.there) | (with_reducible apply Sz.alloc) | (with_reducible apply Sz.set) | (with_reducible apply Sz.drew) | (with_reducible apply Sz.drewN) | (with_reducible apply Sz.bytesW) | (with_reducible assumption) | (with_reducible exact Sz.base _))) ?_; (try simp only [List.set_cons_zero, List.set_cons_succ]); exact (by repeat (first | (with_reducible exact Sel.nil) | (with_reducible apply Sel.cons) | (with_reducible exact Del.here) | (with_reducible apply Del.there))))⟩
            case measure => have := HK1.out.2; simp [intOf]; omega
    · have HF : Hid (kvL es = t) := by show _ = _; have h9 := HT.out; rw [List.take_of_length_le (by omega)] at h9; exact h9
      go_wp2_with fail
      go_ret
      exact ⟨by rw [HR.out, HF.out]; rfl, Hp.b (by repeat (first | (with_reducible exact H) | (with_reducible apply Hp.alloc) | (with_reducible apply Hp.set) | (with_reducible apply Hp.drew) | (with_reducible apply Hp.drewN) | (with_reducible apply Hp.bytesW) | (with_reducible exact Upd.here) | (with_reducible exact Upd.hereR) | (with_reducible apply Upd.there) | (with_reducible apply Sz.alloc) | (with_reducible apply Sz.set) | (with_reducible apply Sz.drew) | (with_reducible apply Sz.drewN) | (with_reducible apply Sz.bytesW) | (with_reducible assumption) | (with_reducible exact Sz.base _)))⟩
end Go.Proofs.YtiooaephjjkgdaaDoor

/- Stores: the text (the program's). No condition. -/
import Derived.Test.YtiooaephjjkgdaaDoorStoreC
import Derived.Test.YtiooaephjjkgdaaDoorKvP
import Derived.Test.YtiooaephjjkgdaaDoorNumW
import Derived.Test.YtiooaephjjkgdaaDoorBuild
import Derived.Deep.RegionHeld3
import Derived.Deep.DeepCutAuto
namespace Go.Proofs.YtiooaephjjkgdaaDoor
open Go.RowKit
set_option linter.unusedVariables false
set_option linter.unusedSimpArgs false
set_option maxHeartbeats 32000000 in
set_option maxRecDepth 10000 in
theorem kvText_any (A : Option Addr) (n c : Nat) (es : List Entry) (w : World) (hr : Rd w w.heap.size 3 A n c (es.flatMap encEntry)) (hn : es.length = n) (hd : ∀ u ∈ es, DE 0 w u) (h1 : storeOk es = true) (htab : tabOk w) :
    Calls Tryd.prog 68 #[.agg #[.slice A n c]] w fun e w' => e = .returned (.string ⟨(kvL es).toArray⟩) ∧ Below w.heap.size w w' := by
  have hc := hr.2.1
  have hm := hr.2.2.1
  unfold maxLen at hm
  have H := Hp.nil w
  obtain ⟨h60', hok⟩ := ok_entry h1
  have h60 : n ≤ 60 := by omega
  have HOK := Lib.hid hok; clear hok h60' h1
  go_enter Tryd.func68, Tryd.ntmps68
  go_wp2_with fail
  have HH := Lib.hid H; clear H
  go_loopw [11] (fun i wr => ∃ (k : Nat) (t : List UInt8) (p B : Option Addr) (d : Nat), k ≤ n ∧ i = .int .i64 k ∧ Hid (p = none ∨ p = some ⟨w.heap.size + 1, 0, none⟩) ∧ Hid (kvL (es.take k) = t) ∧ t.length ≤ k * 200 ∧ Hid (Hp w wr [box (w.heap.size + 1) 114 [.pointer p, .slice B (t).length d], rByte B d (t), box w.heap.size 40 [.slice A n c]])) (fun i _ => n - (intOf i).toNat)
  case atStart =>
    have H := HH.out
    refine ⟨0, [], none, none, 0, Nat.zero_le _, rfl, .inl rfl, by show _ = _; simp [kvL], by simp, ?_⟩
    exact Lib.hid (Hp.give (Hp.cons_nilRow (by repeat (first | (with_reducible exact H) | (with_reducible apply Hp.alloc) | (with_reducible apply Hp.set) | (with_reducible apply Hp.drew) | (with_reducible apply Hp.drewN) | (with_reducible apply Hp.bytesW) | (with_reducible exact Upd.here) | (with_reducible exact Upd.hereR) | (with_reducible apply Upd.there) | (with_reducible apply Sz.alloc) | (with_reducible apply Sz.set) | (with_reducible apply Sz.drew) | (with_reducible apply Sz.drewN) | (with_reducible apply Sz.bytesW) | (with_reducible assumption) | (with_reducible exact Sz.base _))) 5 1) [1, 0, 2] (by decide) (by rfl))
  case round =>
    clear HH
    obtain ⟨k, t, p, B, d, hk, rfl, HPP, HT, htl, HP⟩ := hrel
    have H := HP.out
    have F := H.facts; simp only [Facts, NeF, box, row, reg, cellsF, rByte, ne_eq, true_and, and_true, Nat.reduceAdd, Nat.zero_add] at F
    by_cases hlt : k < n
    · obtain ⟨b, off, rfl, hb⟩ := Rd.atV (enc := encEntry) hr hn encEntry_len (by omega)
      have hcs : ∀ (W : World) (L : List Ent), Hp w W L → _ := fun W L h => Rd.entAt hr hn (k := k) (by omega) rfl W h.b
      have hdr : DE 0 w (es[k]'(by omega)) := hd _ (List.getElem_mem _)
      have hk1 : (k : Int) < (n : Int) := by omega
      have hk0 : (0 : Int) ≤ (k : Int) := by omega
      have hok := HOK.out _ (List.getElem_mem (show k < es.length by omega))
      have HN : Hid (kvL (es.take (k + 1)) = t ++ entL (es[k]'(by omega))) := by show _ = _; rw [kvL_snoc (by omega), HT.out]
      have HK1 : Hid (k + 1 ≤ n ∧ n - (k + 1) < n - k) := ⟨by omega, by omega⟩
      have htk : t.length ≤ 12000 := by omega
      have HTL := Lib.hid htl; clear htl
      generalize (es[k]'(by omega)) = l at *
      have hvr := hdr.1.1
      clear hdr
      have HCS := Lib.hid hcs
      clear hcs
      obtain ⟨c0, c1, c2⟩ := HCS.out _ _ H
      obtain ⟨path, first, vs, va, vc⟩ := l
      dsimp only at c0 c1 c2 hok hvr
      obtain ⟨hp1, hf1, hv1, hv2, hall⟩ := hok
      obtain ⟨pa, rfl⟩ : ∃ p : List UInt8, path = ⟨p.toArray⟩ := ⟨path.data.toList, by simp⟩
      have hpa : pa.length ≤ 120 := by simpa [ByteArray.size] using hp1
      obtain ⟨fm, rfl⟩ := Int.eq_ofNat_of_zero_le (show 0 ≤ first by omega)
      have hfm : fm ≤ 1000000 := by omega
      clear hp1 hf1 hall
      obtain ⟨df, hdf⟩ : ∃ dn, Go.Lib.decDigits fm = dn := ⟨_, rfl⟩
      have hdfl : df.length ≤ 10 := by rw [← hdf]; exact dec_len_le 9 _ (by show fm < 10000000000; omega)
      obtain ⟨dv, hdv⟩ : ∃ dn, Go.Lib.decDigits vs.length = dn := ⟨_, rfl⟩
      have hdvl : dv.length ≤ 10 := by rw [← hdv]; exact dec_len_le 9 _ (by show vs.length < 10000000000; omega)
      obtain ⟨t0, ht0⟩ : ∃ t0, t0 = pa ++ 32 :: (df ++ 32 :: (dv ++ [32])) := ⟨_, rfl⟩
      have HT0 := Lib.hid ht0
      have ht0l : t0.length ≤ 150 := by rw [ht0]; simp; omega
      have ht0p : 0 < t0.length := by rw [ht0]; simp; omega
      clear ht0
      have HE : Hid (headF ⟨⟨pa.toArray⟩, (fm : Int), vs, va, vc⟩ = t0) := by
        show _ = _
        rw [HT0.out]
        simp [headF, Int.toNat_natCast, hdf, hdv]
      have hbw : b < wr.heap.size := Nat.lt_of_lt_of_le hb H.b.size
      have hbe : ¬ b = wr.heap.size ∧ ¬ wr.heap.size = b := by omega
      have hz1 : ¬ 9223372036854775807 < pa.length + 1 := by omega
      have hz2 : ¬ 9223372036854775807 < pa.length + 1 + df.length := by omega
      have hz3 : ¬ 9223372036854775807 < pa.length + 1 + df.length + 1 := by omega
      have hz4 : ¬ 9223372036854775807 < pa.length + 1 + df.length + 1 + dv.length := by omega
      have hz5 : ¬ 9223372036854775807 < pa.length + 1 + df.length + 1 + dv.length + 1 := by omega
      go_wp2_with fail
      replace H := H.alloc (t := 74) (cs := [.string ⟨pa.toArray⟩, .int .i64 fm, .slice va vs.length vc]) (Sz.base wr)
      clear F; have F := H.facts; simp only [Facts, NeF, box, row, reg, cellsF, rByte, ne_eq, true_and, and_true, Nat.reduceAdd, Nat.zero_add] at F
      go_upto_region 5 with fail
      go_cut [] (fun wc => ∃ (B3 : Option Addr) (d3 : Nat), Hp w wc [box (w.heap.size + 1) 114 [.pointer (some ⟨w.heap.size + 1, 0, none⟩), .slice B3 (t ++ t0).length d3], rByte B3 d3 (t ++ t0), box wr.heap.size 74 [.string ⟨pa.toArray⟩, .int .i64 fm, .slice va vs.length vc], box w.heap.size 40 [.slice (some ⟨b, off, none⟩) n c]])
      case first => as_aux_lemma =>
        go_region_held3 (fun w' => w'.cell? ⟨wr.heap.size, 0, none⟩ = some (.string ⟨pa.toArray⟩) ∧ w'.cell? ⟨wr.heap.size, 1, none⟩ = some (.int .i64 fm) ∧ w'.cell? ⟨wr.heap.size, 2, none⟩ = some (.slice va vs.length vc)) (go_keep) (first | (go_at_call 91; refine (Itoa_any _ _ (by omega) (htab.on (Hp.b (by repeat (first | (with_reducible exact H) | (with_reducible apply Hp.alloc) | (with_reducible apply Hp.set) | (with_reducible apply Hp.drew) | (with_reducible apply Hp.drewN) | (with_reducible apply Hp.bytesW) | (with_reducible exact Upd.here) | (with_reducible exact Upd.hereR) | (with_reducible apply Upd.there) | (with_reducible apply Sz.alloc) | (with_reducible apply Sz.set) | (with_reducible apply Sz.drew) | (with_reducible apply Sz.drewN) | (with_reducible apply Sz.bytesW) | (with_reducible assumption) | (with_reducible exact Sz.base _)))))).mono ?_; rintro e w2 ⟨rfl, hb2⟩; (first | rw [hdf] | rw [hdv]); replace H := Hp.step (by repeat (first | (with_reducible exact H) | (with_reducible apply Hp.alloc) | (with_reducible apply Hp.set) | (with_reducible apply Hp.drew) | (with_reducible apply Hp.drewN) | (with_reducible apply Hp.bytesW) | (with_reducible exact Upd.here) | (with_reducible exact Upd.hereR) | (with_reducible apply Upd.there) | (with_reducible apply Sz.alloc) | (with_reducible apply Sz.set) | (with_reducible apply Sz.drew) | (with_reducible apply Sz.drewN) | (with_reducible apply Sz.bytesW) | (with_reducible assumption) | (with_reducible exact Sz.base _))) hb2; (try simp only [List.set_cons_zero, List.set_cons_succ, List.cons_append, List.nil_append] at H); clear hb2 F; have F := H.facts; simp only [Facts, NeF, box, row, reg, cellsF, rByte, ne_eq, true_and, and_true, Nat.reduceAdd, Nat.zero_add] at F) | (go_at_call 90; refine (writeString_hp (L := [box wr.heap.size 74 [.string ⟨pa.toArray⟩, .int .i64 fm, .slice va vs.length vc], box w.heap.size 40 [.slice (some ⟨b, off, none⟩) n c]]) (w.heap.size + 1) p B d t t0 _ (ByteArray.ext (by rw [HT0.out]; simp)) (by refine Hp.sel (by repeat (first | (with_reducible exact H) | (with_reducible apply Hp.alloc) | (with_reducible apply Hp.set) | (with_reducible apply Hp.drew) | (with_reducible apply Hp.drewN) | (with_reducible apply Hp.bytesW) | (with_reducible exact Upd.here) | (with_reducible exact Upd.hereR) | (with_reducible apply Upd.there) | (with_reducible apply Sz.alloc) | (with_reducible apply Sz.set) | (with_reducible apply Sz.drew) | (with_reducible apply Sz.drewN) | (with_reducible apply Sz.bytesW) | (with_reducible assumption) | (with_reducible exact Sz.base _))) ?_; (try simp only [List.set_cons_zero, List.set_cons_succ]); exact (by repeat (first | (with_reducible exact Sel.nil) | (with_reducible apply Sel.cons) | (with_reducible exact Del.here) | (with_reducible apply Del.there)))) HPP.out ht0p (by omega)).mono ?_; rintro e w3 ⟨n9, B3, d3, rfl, H3⟩; replace H := H3; clear H3 F; have F := H.facts; simp only [Facts, NeF, box, row, reg, cellsF, rByte, ne_eq, true_and, and_true, Nat.reduceAdd, Nat.zero_add] at F))
        all_goals
          go_wp2_with fail
          go_meet
          exact ⟨B3, d3, (by refine Hp.sel (by repeat (first | (with_reducible exact H) | (with_reducible apply Hp.alloc) | (with_reducible apply Hp.set) | (with_reducible apply Hp.drew) | (with_reducible apply Hp.drewN) | (with_reducible apply Hp.bytesW) | (with_reducible exact Upd.here) | (with_reducible exact Upd.hereR) | (with_reducible apply Upd.there) | (with_reducible apply Sz.alloc) | (with_reducible apply Sz.set) | (with_reducible apply Sz.drew) | (with_reducible apply Sz.drewN) | (with_reducible apply Sz.bytesW) | (with_reducible assumption) | (with_reducible exact Sz.base _))) ?_; (try simp only [List.set_cons_zero, List.set_cons_succ]); exact (by repeat (first | (with_reducible exact Sel.nil) | (with_reducible apply Sel.cons) | (with_reducible exact Del.here) | (with_reducible apply Del.there))))⟩
      case rest =>
      clear F H
      obtain ⟨B3, d3, H⟩ := hcut
      obtain ⟨wz, hwc⟩ : ∃ x, x = wc := ⟨_, rfl⟩
      subst hwc
      have F := H.facts; simp only [Facts, NeF, box, row, reg, cellsF, rByte, ne_eq, true_and, and_true, Nat.reduceAdd, Nat.zero_add] at F
      clear HPP
      generalize hB4 : wr.heap.size = b4 at *
      clear hB4
      go_wp2_with fail
      have HH := Lib.hid H; clear H F
      go_loopw [33] (fun i wi => ∃ (j : Nat) (t2 : List UInt8) (B4 : Option Addr) (d4 : Nat), j ≤ vs.length ∧ i = .int .i64 j ∧ Hid (t ++ t0 ++ (vs.take j).map verC = t2) ∧ t2.length ≤ t.length + 150 + j ∧ Hid (Hp w wi [box (w.heap.size + 1) 114 [.pointer (some ⟨w.heap.size + 1, 0, none⟩), .slice B4 (t2).length d4], rByte B4 d4 (t2), box b4 74 [.string ⟨pa.toArray⟩, .int .i64 fm, .slice va vs.length vc], box w.heap.size 40 [.slice (some ⟨b, off, none⟩) n c]])) (fun i _ => vs.length - (intOf i).toNat)
      case atStart =>
        have H := HH.out
        exact ⟨0, t ++ t0, B3, d3, Nat.zero_le _, rfl, by show _ = _; simp, by simp; omega, Lib.hid (by refine Hp.sel (by repeat (first | (with_reducible exact H) | (with_reducible apply Hp.alloc) | (with_reducible apply Hp.set) | (with_reducible apply Hp.drew) | (with_reducible apply Hp.drewN) | (with_reducible apply Hp.bytesW) | (with_reducible exact Upd.here) | (with_reducible exact Upd.hereR) | (with_reducible apply Upd.there) | (with_reducible apply Sz.alloc) | (with_reducible apply Sz.set) | (with_reducible apply Sz.drew) | (with_reducible apply Sz.drewN) | (with_reducible apply Sz.bytesW) | (with_reducible assumption) | (with_reducible exact Sz.base _))) ?_; (try simp only [List.set_cons_zero, List.set_cons_succ]); exact (by repeat (first | (with_reducible exact Sel.nil) | (with_reducible apply Sel.cons) | (with_reducible exact Del.here) | (with_reducible apply Del.there))))⟩
      case round =>
        clear HH
        obtain ⟨wi, hwi⟩ : ∃ x, x = wr := ⟨_, rfl⟩
        subst hwi
        obtain ⟨j, t2, B4, d4, hj, rfl, HT2, ht2l, HP2⟩ := hrel
        have H := HP2.out
        have F := H.facts; simp only [Facts, NeF, box, row, reg, cellsF, rByte, ne_eq, true_and, and_true, Nat.reduceAdd, Nat.zero_add] at F
        by_cases hjl : j < vs.length
        · obtain ⟨b2, off2, rfl, hb2⟩ := Rd.atV (enc := encVer) hvr rfl encVer_len (by omega)
          have hvs : ∀ (W : World) (L : List Ent), Hp w W L → _ := fun W L h => Rd.verAt hvr rfl (k := j) hjl rfl W h.b
          have HVS := Lib.hid hvs; clear hvs
          obtain ⟨d0, d1, d2, d3'⟩ := HVS.out _ _ H
          have hj1 : (j : Int) < (vs.length : Int) := by omega
          have hj0 : (0 : Int) ≤ (j : Int) := by omega
          have hbw2 : b2 < wi.heap.size := Nat.lt_of_lt_of_le hb2 H.b.size
          have hbe2 : ¬ b2 = wi.heap.size ∧ ¬ wi.heap.size = b2 := by omega
          have HJ1 : Hid (j + 1 ≤ vs.length ∧ vs.length - (j + 1) < vs.length - j ∧ t2.length + 1 ≤ t.length + 150 + (j + 1)) := ⟨by omega, by omega, by omega⟩
          have HN2 : Hid (t ++ t0 ++ (vs.take (j + 1)).map verC = t2 ++ [verC vs[j]]) := by show _ = _; rw [verC_snoc hjl, ← List.append_assoc, HT2.out]
          have ht2k : t2.length + 1 ≤ 1000000 := by omega
          clear ht2l
          generalize vs[j] = v at *
          obtain ⟨data, da, dc, made, gone, dead⟩ := v
          dsimp only at d0 d1 d2 d3'
          cases dead with
          | true =>
            have HM : Hid (t ++ t0 ++ (vs.take (j + 1)).map verC = t2 ++ [100]) := HN2
            clear HN2 HT2
            go_wp2_with (go_at_call 92; refine (writeByte_hp (L := [box wi.heap.size 76 [.slice da data.length dc, .int .i64 made, .bool gone, .bool true], box b4 74 [.string ⟨pa.toArray⟩, .int .i64 fm, .slice (some ⟨b2, off2, none⟩) vs.length vc], box w.heap.size 40 [.slice (some ⟨b, off, none⟩) n c]]) (w.heap.size + 1) _ B4 d4 t2 100 _ (by rfl) (by refine Hp.sel (by repeat (first | (with_reducible exact H) | (with_reducible apply Hp.alloc) | (with_reducible apply Hp.set) | (with_reducible apply Hp.drew) | (with_reducible apply Hp.drewN) | (with_reducible apply Hp.bytesW) | (with_reducible exact Upd.here) | (with_reducible exact Upd.hereR) | (with_reducible apply Upd.there) | (with_reducible apply Sz.alloc) | (with_reducible apply Sz.set) | (with_reducible apply Sz.drew) | (with_reducible apply Sz.drewN) | (with_reducible apply Sz.bytesW) | (with_reducible assumption) | (with_reducible exact Sz.base _))) ?_; (try simp only [List.set_cons_zero, List.set_cons_succ]); exact (by repeat (first | (with_reducible exact Sel.nil) | (with_reducible apply Sel.cons) | (with_reducible exact Del.here) | (with_reducible apply Del.there)))) (.inr rfl) ht2k).mono ?_; rintro e w5 ⟨B5, d5, rfl, H5⟩; replace H := H5; clear H5 F; have F := H.facts; simp only [Facts, NeF, box, row, reg, cellsF, rByte, ne_eq, true_and, and_true, Nat.reduceAdd, Nat.zero_add] at F)
            go_roundw
            case rel => exact ⟨j + 1, t2 ++ [100], B5, d5, HJ1.out.1, by go_num, HM, by have := HJ1.out.2.2; simpa using this, Lib.hid (by refine Hp.sel (by repeat (first | (with_reducible exact H) | (with_reducible apply Hp.alloc) | (with_reducible apply Hp.set) | (with_reducible apply Hp.drew) | (with_reducible apply Hp.drewN) | (with_reducible apply Hp.bytesW) | (with_reducible exact Upd.here) | (with_reducible exact Upd.hereR) | (with_reducible apply Upd.there) | (with_reducible apply Sz.alloc) | (with_reducible apply Sz.set) | (with_reducible apply Sz.drew) | (with_reducible apply Sz.drewN) | (with_reducible apply Sz.bytesW) | (with_reducible assumption) | (with_reducible exact Sz.base _))) ?_; (try simp only [List.set_cons_zero, List.set_cons_succ]); exact (by repeat (first | (with_reducible exact Sel.nil) | (with_reducible apply Sel.cons) | (with_reducible exact Del.here) | (with_reducible apply Del.there))))⟩
            case measure => have := HJ1.out.2.1; simp [intOf]; omega
          | false =>
          cases gone with
          | true =>
            have HM : Hid (t ++ t0 ++ (vs.take (j + 1)).map verC = t2 ++ [103]) := HN2
            clear HN2 HT2
            go_wp2_with (go_at_call 92; refine (writeByte_hp (L := [box wi.heap.size 76 [.slice da data.length dc, .int .i64 made, .bool true, .bool false], box b4 74 [.string ⟨pa.toArray⟩, .int .i64 fm, .slice (some ⟨b2, off2, none⟩) vs.length vc], box w.heap.size 40 [.slice (some ⟨b, off, none⟩) n c]]) (w.heap.size + 1) _ B4 d4 t2 103 _ (by rfl) (by refine Hp.sel (by repeat (first | (with_reducible exact H) | (with_reducible apply Hp.alloc) | (with_reducible apply Hp.set) | (with_reducible apply Hp.drew) | (with_reducible apply Hp.drewN) | (with_reducible apply Hp.bytesW) | (with_reducible exact Upd.here) | (with_reducible exact Upd.hereR) | (with_reducible apply Upd.there) | (with_reducible apply Sz.alloc) | (with_reducible apply Sz.set) | (with_reducible apply Sz.drew) | (with_reducible apply Sz.drewN) | (with_reducible apply Sz.bytesW) | (with_reducible assumption) | (with_reducible exact Sz.base _))) ?_; (try simp only [List.set_cons_zero, List.set_cons_succ]); exact (by repeat (first | (with_reducible exact Sel.nil) | (with_reducible apply Sel.cons) | (with_reducible exact Del.here) | (with_reducible apply Del.there)))) (.inr rfl) ht2k).mono ?_; rintro e w5 ⟨B5, d5, rfl, H5⟩; replace H := H5; clear H5 F; have F := H.facts; simp only [Facts, NeF, box, row, reg, cellsF, rByte, ne_eq, true_and, and_true, Nat.reduceAdd, Nat.zero_add] at F)
            go_roundw
            case rel => exact ⟨j + 1, t2 ++ [103], B5, d5, HJ1.out.1, by go_num, HM, by have := HJ1.out.2.2; simpa using this, Lib.hid (by refine Hp.sel (by repeat (first | (with_reducible exact H) | (with_reducible apply Hp.alloc) | (with_reducible apply Hp.set) | (with_reducible apply Hp.drew) | (with_reducible apply Hp.drewN) | (with_reducible apply Hp.bytesW) | (with_reducible exact Upd.here) | (with_reducible exact Upd.hereR) | (with_reducible apply Upd.there) | (with_reducible apply Sz.alloc) | (with_reducible apply Sz.set) | (with_reducible apply Sz.drew) | (with_reducible apply Sz.drewN) | (with_reducible apply Sz.bytesW) | (with_reducible assumption) | (with_reducible exact Sz.base _))) ?_; (try simp only [List.set_cons_zero, List.set_cons_succ]); exact (by repeat (first | (with_reducible exact Sel.nil) | (with_reducible apply Sel.cons) | (with_reducible exact Del.here) | (with_reducible apply Del.there))))⟩
            case measure => have := HJ1.out.2.1; simp [intOf]; omega
          | false =>
            have HM : Hid (t ++ t0 ++ (vs.take (j + 1)).map verC = t2 ++ [118]) := HN2
            clear HN2 HT2
            go_wp2_with (go_at_call 92; refine (writeByte_hp (L := [box wi.heap.size 76 [.slice da data.length dc, .int .i64 made, .bool false, .bool false], box b4 74 [.string ⟨pa.toArray⟩, .int .i64 fm, .slice (some ⟨b2, off2, none⟩) vs.length vc], box w.heap.size 40 [.slice (some ⟨b, off, none⟩) n c]]) (w.heap.size + 1) _ B4 d4 t2 118 _ (by rfl) (by refine Hp.sel (by repeat (first | (with_reducible exact H) | (with_reducible apply Hp.alloc) | (with_reducible apply Hp.set) | (with_reducible apply Hp.drew) | (with_reducible apply Hp.drewN) | (with_reducible apply Hp.bytesW) | (with_reducible exact Upd.here) | (with_reducible exact Upd.hereR) | (with_reducible apply Upd.there) | (with_reducible apply Sz.alloc) | (with_reducible apply Sz.set) | (with_reducible apply Sz.drew) | (with_reducible apply Sz.drewN) | (with_reducible apply Sz.bytesW) | (with_reducible assumption) | (with_reducible exact Sz.base _))) ?_; (try simp only [List.set_cons_zero, List.set_cons_succ]); exact (by repeat (first | (with_reducible exact Sel.nil) | (with_reducible apply Sel.cons) | (with_reducible exact Del.here) | (with_reducible apply Del.there)))) (.inr rfl) ht2k).mono ?_; rintro e w5 ⟨B5, d5, rfl, H5⟩; replace H := H5; clear H5 F; have F := H.facts; simp only [Facts, NeF, box, row, reg, cellsF, rByte, ne_eq, true_and, and_true, Nat.reduceAdd, Nat.zero_add] at F)
            go_roundw
            case rel => exact ⟨j + 1, t2 ++ [118], B5, d5, HJ1.out.1, by go_num, HM, by have := HJ1.out.2.2; simpa using this, Lib.hid (by refine Hp.sel (by repeat (first | (with_reducible exact H) | (with_reducible apply Hp.alloc) | (with_reducible apply Hp.set) | (with_reducible apply Hp.drew) | (with_reducible apply Hp.drewN) | (with_reducible apply Hp.bytesW) | (with_reducible exact Upd.here) | (with_reducible exact Upd.hereR) | (with_reducible apply Upd.there) | (with_reducible apply Sz.alloc) | (with_reducible apply Sz.set) | (with_reducible apply Sz.drew) | (with_reducible apply Sz.drewN) | (with_reducible apply Sz.bytesW) | (with_reducible assumption) | (with_reducible exact Sz.base _))) ?_; (try simp only [List.set_cons_zero, List.set_cons_succ]); exact (by repeat (first | (with_reducible exact Sel.nil) | (with_reducible apply Sel.cons) | (with_reducible exact Del.here) | (with_reducible apply Del.there))))⟩
            case measure => have := HJ1.out.2.1; simp [intOf]; omega
        · have HF : Hid (t ++ t0 ++ vs.map verC = t2) := by show _ = _; have h9 := HT2.out; rw [List.take_of_length_le (by omega)] at h9; exact h9
          have HM : Hid (kvL (es.take (k + 1)) = t2 ++ [10]) := by show _ = _; rw [HN.out, entL, HE.out, ← HF.out]; simp only [List.append_assoc]
          have HL : Hid ((t2 ++ [10]).length ≤ (k + 1) * 200) := by show _ ≤ _; have := HTL.out; simp; omega
          have ht2k : t2.length + 1 ≤ 1000000 := by omega
          go_wp2_with (go_at_call 92; refine (writeByte_hp (L := [box b4 74 [.string ⟨pa.toArray⟩, .int .i64 fm, .slice va vs.length vc], box w.heap.size 40 [.slice (some ⟨b, off, none⟩) n c]]) (w.heap.size + 1) _ B4 d4 t2 10 _ (by rfl) (by refine Hp.sel (by repeat (first | (with_reducible exact H) | (with_reducible apply Hp.alloc) | (with_reducible apply Hp.set) | (with_reducible apply Hp.drew) | (with_reducible apply Hp.drewN) | (with_reducible apply Hp.bytesW) | (with_reducible exact Upd.here) | (with_reducible exact Upd.hereR) | (with_reducible apply Upd.there) | (with_reducible apply Sz.alloc) | (with_reducible apply Sz.set) | (with_reducible apply Sz.drew) | (with_reducible apply Sz.drewN) | (with_reducible apply Sz.bytesW) | (with_reducible assumption) | (with_reducible exact Sz.base _))) ?_; (try simp only [List.set_cons_zero, List.set_cons_succ]); exact (by repeat (first | (with_reducible exact Sel.nil) | (with_reducible apply Sel.cons) | (with_reducible exact Del.here) | (with_reducible apply Del.there)))) (.inr rfl) ht2k).mono ?_; rintro e w5 ⟨B5, d5, rfl, H5⟩; replace H := H5; clear H5 F; have F := H.facts; simp only [Facts, NeF, box, row, reg, cellsF, rByte, ne_eq, true_and, and_true, Nat.reduceAdd, Nat.zero_add] at F)
          go_roundw
          case rel => exact ⟨k + 1, t2 ++ [10], (some ⟨w.heap.size + 1, 0, none⟩), B5, d5, HK1.out.1, by go_num, .inr rfl, HM, HL.out, Lib.hid (by refine Hp.sel (by repeat (first | (with_reducible exact H) | (with_reducible apply Hp.alloc) | (with_reducible apply Hp.set) | (with_reducible apply Hp.drew) | (with_reducible apply Hp.drewN) | (with_reducible apply Hp.bytesW) | (with_reducible exact Upd.here) | (with_reducible exact Upd.hereR) | (with_reducible apply Upd.there) | (with_reducible apply Sz.alloc) | (with_reducible apply Sz.set) | (with_reducible apply Sz.drew) | (with_reducible apply Sz.drewN) | (with_reducible apply Sz.bytesW) | (with_reducible assumption) | (with_reducible exact Sz.base _))) ?_; (try simp only [List.set_cons_zero, List.set_cons_succ]); exact (by repeat (first | (with_reducible exact Sel.nil) | (with_reducible apply Sel.cons) | (with_reducible exact Del.here) | (with_reducible apply Del.there))))⟩
          case measure => have := HK1.out.2; simp [intOf]; omega
    · have HF : Hid (kvL es = t) := by show _ = _; have h9 := HT.out; rw [List.take_of_length_le (by omega)] at h9; exact h9
      go_wp2_with (go_at_call 93; refine (bString_hp (w := w) (L := [box w.heap.size 40 [.slice A n c]]) (w.heap.size + 1) d p B t (by refine Hp.sel (by repeat (first | (with_reducible exact H) | (with_reducible apply Hp.alloc) | (with_reducible apply Hp.set) | (with_reducible apply Hp.drew) | (with_reducible apply Hp.drewN) | (with_reducible apply Hp.bytesW) | (with_reducible exact Upd.here) | (with_reducible exact Upd.hereR) | (with_reducible apply Upd.there) | (with_reducible apply Sz.alloc) | (with_reducible apply Sz.set) | (with_reducible apply Sz.drew) | (with_reducible apply Sz.drewN) | (with_reducible apply Sz.bytesW) | (with_reducible assumption) | (with_reducible exact Sz.base _))) ?_; (try simp only [List.set_cons_zero, List.set_cons_succ]); exact (by repeat (first | (with_reducible exact Sel.nil) | (with_reducible apply Sel.cons) | (with_reducible exact Del.here) | (with_reducible apply Del.there)))) HPP.out).mono ?_; rintro e w6 ⟨rfl, q6⟩)
      go_ret
      exact ⟨by rw [HF.out]; rfl, (Hp.b (by repeat (first | (with_reducible exact H) | (with_reducible apply Hp.alloc) | (with_reducible apply Hp.set) | (with_reducible apply Hp.drew) | (with_reducible apply Hp.drewN) | (with_reducible apply Hp.bytesW) | (with_reducible exact Upd.here) | (with_reducible exact Upd.hereR) | (with_reducible apply Upd.there) | (with_reducible apply Sz.alloc) | (with_reducible apply Sz.set) | (with_reducible apply Sz.drew) | (with_reducible apply Sz.drewN) | (with_reducible apply Sz.bytesW) | (with_reducible assumption) | (with_reducible exact Sz.base _)))).trans q6⟩
end Go.Proofs.YtiooaephjjkgdaaDoor

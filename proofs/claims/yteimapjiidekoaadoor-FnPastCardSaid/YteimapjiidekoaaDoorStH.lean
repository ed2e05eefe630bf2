/- Stores: marks found again (the statements' own). No condition. -/
import Derived.Test.YteimapjiidekoaaDoorStG
import Derived.Test.YteimapjiidekoaaDoorStoreA
import Derived.Test.YteimapjiidekoaaDoorMark
import Derived.Deep.RegionHeld3
namespace Go.Proofs.YteimapjiidekoaaDoor
open Go.RowKit
set_option linter.unusedVariables false
set_option linter.unusedSimpArgs false
theorem mkV_drop {m l k : Nat} {us : List Ver} {u : Ver} {r : List Ver} (h : (mkV m us).drop k = mkV l (u :: r)) : (mkV m us)[k]? = some (markV l u) ∧ (mkV m us).drop (k + 1) = mkV (l + u.data.length + 3) r := by
  rw [mkV] at h
  constructor
  · have := congrArg (·[0]?) h
    simpa [List.getElem?_drop] using this
  · have := congrArg List.tail h
    rw [List.tail_drop] at this
    simpa using this
theorem mkE_drop {m l k : Nat} {us : List Entry} {u : Entry} {r : List Entry} (h : (mkE m us).drop k = mkE l (u :: r)) : (mkE m us)[k]? = some (markE l u) ∧ (mkE m us).drop (k + 1) = mkE (l + 2 + cntV u.vs) r := by
  rw [mkE] at h
  constructor
  · have := congrArg (·[0]?) h
    simpa [List.getElem?_drop] using this
  · have := congrArg List.tail h
    rw [List.tail_drop] at this
    simpa using this
set_option maxHeartbeats 8000000 in
set_option maxRecDepth 10000 in
theorem heldVersionS_any (A : Option Addr) (n c m : Nat) (us : List Ver) (hn : us.length = n) (w : World) (hr : Rd w w.heap.size 4 A n c ((mkV m us).flatMap encVer)) (hd : ∀ v ∈ mkV m us, DV 0 w v) (h0 : 0 < m) (hm : m + cntV us ≤ 1125899906842624) :
    Calls Tryd.prog 85 #[.slice A n c, .int .i64 m] w fun e w' => e = .returned (.int .i64 ((m + cntV us : Nat) : Int)) ∧ Below w.heap.size w w' := by
  have hc := hr.2.1
  have hmx := hr.2.2.1
  unfold maxLen at hmx
  have H := Hp.nil w
  have HMN : Hid ((mkV m us).length = n) := by show _ = _; rw [mkV_len, hn]
  go_enter Tryd.func85, Tryd.ntmps85
  go_wp2_with fail
  go_loopw [1, 5] (fun lv i wr => ∃ (k l : Nat), k ≤ n ∧ i = .int .i64 k ∧ lv = .int .i64 l ∧ Hid ((mkV m us).drop k = mkV l (us.drop k)) ∧ Hid (m + cntV us = l + cntV (us.drop k) ∧ 0 < l) ∧ Hid (Hp w wr [])) (fun _ i _ => n - (intOf i).toNat)
  case atStart => exact ⟨0, m, Nat.zero_le _, rfl, rfl, rfl, ⟨rfl, h0⟩, H⟩
  case round =>
    clear H
    obtain ⟨k, l, hk, rfl, rfl, HD, HL, HP⟩ := hrel
    have H := HP.out
    by_cases hlt : k < n
    · have hdr : us.drop k = (us[k]'(by omega)) :: us.drop (k + 1) := List.drop_eq_getElem_cons (by omega)
      obtain ⟨r, HRR⟩ : ∃ r, Hid (us.drop (k + 1) = r) := ⟨_, rfl⟩
      rw [HRR.out] at hdr
      have HD2 : Hid ((mkV m us).drop k = mkV l ((us[k]'(by omega)) :: r)) := by show _ = _; rw [← hdr]; exact HD.out
      have HL2 : Hid (m + cntV us = l + cntV ((us[k]'(by omega)) :: r) ∧ 0 < l) := by rw [← hdr]; exact HL.out
      have HK1 : Hid (k + 1 ≤ n ∧ n - (k + 1) < n - k) := ⟨by omega, by omega⟩
      clear hdr HD HL
      generalize (us[k]'(by omega)) = v at *
      obtain ⟨hg1, hg2⟩ := mkV_drop HD2.out
      have HG2 := Lib.hid hg2; clear hg2
      have hkm : k < (mkV m us).length := by rw [HMN.out]; exact hlt
      have hgk : (mkV m us)[k] = markV l v := by rw [List.getElem?_eq_getElem hkm] at hg1; exact Option.some.inj hg1
      have hdv := hd (markV l v) (by rw [← hgk]; exact List.getElem_mem hkm)
      obtain ⟨b2, off2, rfl, hb2⟩ := Rd.atV (enc := encVer) hr HMN.out encVer_len (by omega)
      have hvs : ∀ (W : World) (L : List Ent), Hp w W L → _ := fun W L h => Rd.verAt hr HMN.out (k := k) hkm rfl W h.b
      rw [hgk] at hvs
      clear hg1 hgk hkm
      obtain ⟨data, da, dc, made, gone, dead⟩ := v
      have hcn : cntV (⟨data, da, dc, made, gone, dead⟩ :: r) = data.length + 3 + cntV r := rfl
      have hb9 : l + data.length + 3 ≤ 1125899906842624 := by have := HL2.out.1; rw [hcn] at this; omega
      have hl0 := HL2.out.2
      have hk1 : (k : Int) < (n : Int) := by omega
      have hk0 : (0 : Int) ≤ (k : Int) := by omega
      obtain ⟨l1, hl1⟩ : ∃ l1, l1 = l + data.length * 1 := ⟨_, rfl⟩
      obtain ⟨l2, hl2⟩ : ∃ l2, l2 = l1 + 1 := ⟨_, rfl⟩
      obtain ⟨l3, hl3⟩ : ∃ l3, l3 = l1 + 2 := ⟨_, rfl⟩
      obtain ⟨l4, hl4⟩ : ∃ l4, l4 = l1 + 3 := ⟨_, rfl⟩
      have hw1 : IntKind.i64.wrap ((l1 : Int) + 1) = (l2 : Int) := by rw [IntKind.wrap_i64]; omega
      have hw2 : IntKind.i64.wrap ((l2 : Int) + 1) = (l3 : Int) := by rw [IntKind.wrap_i64]; omega
      have hw3 : IntKind.i64.wrap ((l3 : Int) + 1) = (l4 : Int) := by rw [IntKind.wrap_i64]; omega
      have e2 : (l2 : Int).tmod 3 = (l2 : Int) % 3 := Int.tmod_eq_emod_of_nonneg (by omega)
      have e3 : (l3 : Int).tmod 3 = (l3 : Int) % 3 := Int.tmod_eq_emod_of_nonneg (by omega)
      obtain ⟨b8, hb8⟩ : ∃ b2, b2 = decide (l2 % 3 = 0) := ⟨_, rfl⟩
      obtain ⟨b3, hb3⟩ : ∃ b3, b3 = decide (l3 % 3 = 0) := ⟨_, rfl⟩
      have hq2 : decide ((l2 : Int) % 3 = 0) = b8 := by rw [hb8]; exact decide_eq_decide.2 (by omega)
      have hq3 : decide ((l3 : Int) % 3 = 0) = b3 := by rw [hb3]; exact decide_eq_decide.2 (by omega)
      have hp2 : ((l2 : Int) % 3 == 0) = b8 := by rw [← hq2]; rfl
      have hp3 : ((l3 : Int) % 3 == 0) = b3 := by rw [← hq3]; rfl
      have hln : ¬ (l1 : Int) < 0 := by omega
      have HV : Hid (markV l ⟨data, da, dc, made, gone, dead⟩ = ⟨mkB l data.length, da, dc, (l1 : Int), b8, b3⟩) := by
        show _ = _
        rw [hb8, hb3, hl2, hl3, hl1]
        simp [markV]
      have HL4 : Hid (l4 = l + data.length + 3) := by show _ = _; omega
      have HL1 : Hid (((l + data.length * 1 : Nat) : Int) = (l1 : Int)) := by show _ = _; rw [hl1]
      rw [HV.out] at hvs hdv
      have hdb : Rd w w.heap.size 1 da data.length dc (marksByte l data.length) := by
        have h9 : Rd w w.heap.size 1 da (mkB l data.length).length dc ((mkB l data.length).flatMap encByte) := hdv.1
        rw [mkB_len, ← marksByte_mk] at h9
        exact h9
      dsimp only at hvs
      rw [mkB_len] at hvs
      have HVS := Lib.hid hvs; clear hvs hdv
      obtain ⟨d0, d1, d2, d3⟩ := HVS.out _ _ H
      have hby : l + data.length * 1 ≤ 1125899906842624 := by omega
      clear hb8 hb3 hl1 hl2 hl3 hl4 hlt
      go_wp2_with (go_at_call 110; refine (heldByteS_hp da data.length dc l _ rfl _ (hdb.grow (Hp.b (by repeat (first | (with_reducible exact H) | (with_reducible apply Hp.alloc) | (with_reducible apply Hp.set) | (with_reducible apply Hp.drew) | (with_reducible apply Hp.drewN) | (with_reducible apply Hp.bytesW) | (with_reducible exact Upd.here) | (with_reducible exact Upd.hereR) | (with_reducible apply Upd.there) | (with_reducible apply Sz.alloc) | (with_reducible apply Sz.set) | (with_reducible apply Sz.drew) | (with_reducible apply Sz.drewN) | (with_reducible apply Sz.bytesW) | (with_reducible assumption) | (with_reducible exact Sz.base _))))) hl0 hby).mono ?_; rintro e w1 ⟨rfl, q1⟩; rw [HL1.out]; replace H := Hp.step (by repeat (first | (with_reducible exact H) | (with_reducible apply Hp.alloc) | (with_reducible apply Hp.set) | (with_reducible apply Hp.drew) | (with_reducible apply Hp.drewN) | (with_reducible apply Hp.bytesW) | (with_reducible exact Upd.here) | (with_reducible exact Upd.hereR) | (with_reducible apply Upd.there) | (with_reducible apply Sz.alloc) | (with_reducible apply Sz.set) | (with_reducible apply Sz.drew) | (with_reducible apply Sz.drewN) | (with_reducible apply Sz.bytesW) | (with_reducible assumption) | (with_reducible exact Sz.base _))) q1; (try simp only [List.set_cons_zero, List.set_cons_succ, List.cons_append, List.nil_append] at H); clear q1 d0 d1 d2 d3; obtain ⟨d0, d1, d2, d3⟩ := HVS.out _ _ H)
      go_roundw
      case rel => exact ⟨k + 1, l4, HK1.out.1, by go_num, rfl, by show _ = _; rw [HRR.out, HG2.out, HL4.out], ⟨by rw [HRR.out, HL2.out.1, hcn, HL4.out]; omega, by rw [HL4.out]; omega⟩, Lib.hid (by repeat (first | (with_reducible exact H) | (with_reducible apply Hp.alloc) | (with_reducible apply Hp.set) | (with_reducible apply Hp.drew) | (with_reducible apply Hp.drewN) | (with_reducible apply Hp.bytesW) | (with_reducible exact Upd.here) | (with_reducible exact Upd.hereR) | (with_reducible apply Upd.there) | (with_reducible apply Sz.alloc) | (with_reducible apply Sz.set) | (with_reducible apply Sz.drew) | (with_reducible apply Sz.drewN) | (with_reducible apply Sz.bytesW) | (with_reducible assumption) | (with_reducible exact Sz.base _)))⟩
      case measure => have := HK1.out.2; simp [intOf]; omega
    · have hd0 : us.drop k = [] := List.drop_eq_nil_of_le (by omega)
      have HC : Hid (m + cntV us = l) := by show _ = _; rw [HL.out.1, hd0, cntV]; omega
      clear hd0
      go_wp2_with fail
      go_ret
      exact ⟨by rw [HC.out]; rfl, Hp.b (by repeat (first | (with_reducible exact H) | (with_reducible apply Hp.alloc) | (with_reducible apply Hp.set) | (with_reducible apply Hp.drew) | (with_reducible apply Hp.drewN) | (with_reducible apply Hp.bytesW) | (with_reducible exact Upd.here) | (with_reducible exact Upd.hereR) | (with_reducible apply Upd.there) | (with_reducible apply Sz.alloc) | (with_reducible apply Sz.set) | (with_reducible apply Sz.drew) | (with_reducible apply Sz.drewN) | (with_reducible apply Sz.bytesW) | (with_reducible assumption) | (with_reducible exact Sz.base _)))⟩
set_option maxHeartbeats 8000000 in
set_option maxRecDepth 10000 in
theorem heldEntryS_any (A : Option Addr) (n c m : Nat) (us : List Entry) (hn : us.length = n) (w : World) (hr : Rd w w.heap.size 3 A n c ((mkE m us).flatMap encEntry)) (hd : ∀ v ∈ mkE m us, DE 0 w v) (h0 : 0 < m) (hm : m + cntE us ≤ 1125899906842624) :
    Calls Tryd.prog 50 #[.slice A n c, .int .i64 m] w fun e w' => e = .returned (.int .i64 ((m + cntE us : Nat) : Int)) ∧ Below w.heap.size w w' := by
  have hc := hr.2.1
  have hmx := hr.2.2.1
  unfold maxLen at hmx
  have H := Hp.nil w
  have HMN : Hid ((mkE m us).length = n) := by show _ = _; rw [mkE_len, hn]
  go_enter Tryd.func50, Tryd.ntmps50
  go_wp2_with fail
  go_loopw [1, 5] (fun lv i wr => ∃ (k l : Nat), k ≤ n ∧ i = .int .i64 k ∧ lv = .int .i64 l ∧ Hid ((mkE m us).drop k = mkE l (us.drop k)) ∧ Hid (m + cntE us = l + cntE (us.drop k) ∧ 0 < l) ∧ Hid (Hp w wr [])) (fun _ i _ => n - (intOf i).toNat)
  case atStart => exact ⟨0, m, Nat.zero_le _, rfl, rfl, rfl, ⟨rfl, h0⟩, H⟩
  case round =>
    clear H
    obtain ⟨k, l, hk, rfl, rfl, HD, HL, HP⟩ := hrel
    have H := HP.out
    by_cases hlt : k < n
    · have hdr : us.drop k = (us[k]'(by omega)) :: us.drop (k + 1) := List.drop_eq_getElem_cons (by omega)
      obtain ⟨r, HRR⟩ : ∃ r, Hid (us.drop (k + 1) = r) := ⟨_, rfl⟩
      rw [HRR.out] at hdr
      have HD2 : Hid ((mkE m us).drop k = mkE l ((us[k]'(by omega)) :: r)) := by show _ = _; rw [← hdr]; exact HD.out
      have HL2 : Hid (m + cntE us = l + cntE ((us[k]'(by omega)) :: r) ∧ 0 < l) := by rw [← hdr]; exact HL.out
      have HK1 : Hid (k + 1 ≤ n ∧ n - (k + 1) < n - k) := ⟨by omega, by omega⟩
      clear hdr HD HL
      generalize (us[k]'(by omega)) = v at *
      obtain ⟨hg1, hg2⟩ := mkE_drop HD2.out
      have HG2 := Lib.hid hg2; clear hg2
      have hkm : k < (mkE m us).length := by rw [HMN.out]; exact hlt
      have hgk : (mkE m us)[k] = markE l v := by rw [List.getElem?_eq_getElem hkm] at hg1; exact Option.some.inj hg1
      have hdv := hd (markE l v) (by rw [← hgk]; exact List.getElem_mem hkm)
      obtain ⟨b2, off2, rfl, hb2⟩ := Rd.atV (enc := encEntry) hr HMN.out encEntry_len (by omega)
      have hvs : ∀ (W : World) (L : List Ent), Hp w W L → _ := fun W L h => Rd.entAt hr HMN.out (k := k) hkm rfl W h.b
      rw [hgk] at hvs
      clear hg1 hgk hkm
      obtain ⟨path, first, vs, va, vc⟩ := v
      have hcn : cntE (⟨path, first, vs, va, vc⟩ :: r) = 2 + cntV vs + cntE r := rfl
      have hb9 : l + 2 + cntV vs ≤ 1125899906842624 := by have := HL2.out.1; rw [hcn] at this; omega
      have hl0 := HL2.out.2
      have hk1 : (k : Int) < (n : Int) := by omega
      have hk0 : (0 : Int) ≤ (k : Int) := by omega
      obtain ⟨l1, hl1⟩ : ∃ l1, l1 = l + 1 := ⟨_, rfl⟩
      obtain ⟨l2, hl2⟩ : ∃ l2, l2 = l + 2 := ⟨_, rfl⟩
      obtain ⟨l3, hl3⟩ : ∃ l3, l3 = l2 + cntV vs := ⟨_, rfl⟩
      have hw1 : IntKind.i64.wrap ((l : Int) + 1) = (l1 : Int) := by rw [IntKind.wrap_i64]; omega
      have hw2 : IntKind.i64.wrap ((l1 : Int) + 1) = (l2 : Int) := by rw [IntKind.wrap_i64]; omega
      have HV : Hid (markE l ⟨path, first, vs, va, vc⟩ = ⟨mkText l, (l1 : Int), mkV l2 vs, va, vc⟩) := by
        show _ = _
        rw [hl1, hl2]; rfl
      have HL4 : Hid (l3 = l + 2 + cntV vs) := by show _ = _; omega
      have HL3 : Hid (((l2 + cntV vs : Nat) : Int) = (l3 : Int)) := by show _ = _; rw [hl3]
      have hl3n : ¬ (l3 : Int) < 0 := by omega
      have hl20 : 0 < l2 := by omega
      have hb8 : l2 + cntV vs ≤ 1125899906842624 := by omega
      rw [HV.out] at hvs hdv
      have hdb : Rd w w.heap.size 4 va vs.length vc ((mkV l2 vs).flatMap encVer) := by
        have h9 : Rd w w.heap.size 4 va (mkV l2 vs).length vc ((mkV l2 vs).flatMap encVer) := hdv.1.1
        rw [mkV_len] at h9
        exact h9
      have hdd : ∀ v ∈ mkV l2 vs, DV 0 w v := hdv.2
      dsimp only at hvs
      rw [mkV_len] at hvs
      have HVS := Lib.hid hvs; clear hvs hdv
      obtain ⟨d0, d1, d2⟩ := HVS.out _ _ H
      have hlt0 : (0 : Int) < (l : Int) := by omega
      have hlt1 : (l : Int) ≤ 1125899906842624 := by omega
      have HTT : Hid (mkText ((l : Int).toNat) = mkText l) := by show _ = _; rw [Int.toNat_natCast]
      clear hl1 hl2 hl3 hlt
      go_wp2_with fail
      go_region_held3 (fun w' => w'.cell? ⟨b2, off2 + k * 3, none⟩ = some (.string (mkText l))) (go_keep) (first | (go_at_call 77; refine (markText_any (l : Int) _ hlt0 hlt1).mono ?_; rintro e w1 ⟨rfl, q1⟩; rw [HTT.out]; replace H := Hp.step (by repeat (first | (with_reducible exact H) | (with_reducible apply Hp.alloc) | (with_reducible apply Hp.set) | (with_reducible apply Hp.drew) | (with_reducible apply Hp.drewN) | (with_reducible apply Hp.bytesW) | (with_reducible exact Upd.here) | (with_reducible exact Upd.hereR) | (with_reducible apply Upd.there) | (with_reducible apply Sz.alloc) | (with_reducible apply Sz.set) | (with_reducible apply Sz.drew) | (with_reducible apply Sz.drewN) | (with_reducible apply Sz.bytesW) | (with_reducible assumption) | (with_reducible exact Sz.base _))) q1; (try simp only [List.set_cons_zero, List.set_cons_succ, List.cons_append, List.nil_append] at H); clear q1 d0 d1 d2; obtain ⟨d0, d1, d2⟩ := HVS.out _ _ H))
      all_goals
        go_wp2_with (go_at_call 85; refine (heldVersionS_any va vs.length vc l2 vs rfl _ (hdb.grow (Hp.b (by repeat (first | (with_reducible exact H) | (with_reducible apply Hp.alloc) | (with_reducible apply Hp.set) | (with_reducible apply Hp.drew) | (with_reducible apply Hp.drewN) | (with_reducible apply Hp.bytesW) | (with_reducible exact Upd.here) | (with_reducible exact Upd.hereR) | (with_reducible apply Upd.there) | (with_reducible apply Sz.alloc) | (with_reducible apply Sz.set) | (with_reducible apply Sz.drew) | (with_reducible apply Sz.drewN) | (with_reducible apply Sz.bytesW) | (with_reducible assumption) | (with_reducible exact Sz.base _))))) (fun v hv => (hdd v hv).step (Hp.b (by repeat (first | (with_reducible exact H) | (with_reducible apply Hp.alloc) | (with_reducible apply Hp.set) | (with_reducible apply Hp.drew) | (with_reducible apply Hp.drewN) | (with_reducible apply Hp.bytesW) | (with_reducible exact Upd.here) | (with_reducible exact Upd.hereR) | (with_reducible apply Upd.there) | (with_reducible apply Sz.alloc) | (with_reducible apply Sz.set) | (with_reducible apply Sz.drew) | (with_reducible apply Sz.drewN) | (with_reducible apply Sz.bytesW) | (with_reducible assumption) | (with_reducible exact Sz.base _))))) hl20 hb8).mono ?_; rintro e w2 ⟨rfl, q2⟩; rw [HL3.out]; replace H := Hp.step (by repeat (first | (with_reducible exact H) | (with_reducible apply Hp.alloc) | (with_reducible apply Hp.set) | (with_reducible apply Hp.drew) | (with_reducible apply Hp.drewN) | (with_reducible apply Hp.bytesW) | (with_reducible exact Upd.here) | (with_reducible exact Upd.hereR) | (with_reducible apply Upd.there) | (with_reducible apply Sz.alloc) | (with_reducible apply Sz.set) | (with_reducible apply Sz.drew) | (with_reducible apply Sz.drewN) | (with_reducible apply Sz.bytesW) | (with_reducible assumption) | (with_reducible exact Sz.base _))) q2; (try simp only [List.set_cons_zero, List.set_cons_succ, List.cons_append, List.nil_append] at H); clear q2)
        go_roundw
        case rel => exact ⟨k + 1, l3, HK1.out.1, by go_num, rfl, by show _ = _; rw [HRR.out, HG2.out, HL4.out], ⟨by rw [HRR.out, HL2.out.1, hcn, HL4.out]; omega, by rw [HL4.out]; omega⟩, Lib.hid (by repeat (first | (with_reducible exact H) | (with_reducible apply Hp.alloc) | (with_reducible apply Hp.set) | (with_reducible apply Hp.drew) | (with_reducible apply Hp.drewN) | (with_reducible apply Hp.bytesW) | (with_reducible exact Upd.here) | (with_reducible exact Upd.hereR) | (with_reducible apply Upd.there) | (with_reducible apply Sz.alloc) | (with_reducible apply Sz.set) | (with_reducible apply Sz.drew) | (with_reducible apply Sz.drewN) | (with_reducible apply Sz.bytesW) | (with_reducible assumption) | (with_reducible exact Sz.base _)))⟩
        case measure => have := HK1.out.2; simp [intOf]; omega
    · have hd0 : us.drop k = [] := List.drop_eq_nil_of_le (by omega)
      have HC : Hid (m + cntE us = l) := by show _ = _; rw [HL.out.1, hd0, cntE]; omega
      clear hd0
      go_wp2_with fail
      go_ret
      exact ⟨by rw [HC.out]; rfl, Hp.b (by repeat (first | (with_reducible exact H) | (with_reducible apply Hp.alloc) | (with_reducible apply Hp.set) | (with_reducible apply Hp.drew) | (with_reducible apply Hp.drewN) | (with_reducible apply Hp.bytesW) | (with_reducible exact Upd.here) | (with_reducible exact Upd.hereR) | (with_reducible apply Upd.there) | (with_reducible apply Sz.alloc) | (with_reducible apply Sz.set) | (with_reducible apply Sz.drew) | (with_reducible apply Sz.drewN) | (with_reducible apply Sz.bytesW) | (with_reducible assumption) | (with_reducible exact Sz.base _)))⟩
set_option maxHeartbeats 2000000 in
theorem heldStoreP_any (A : Option Addr) (n c m : Nat) (mi : Int) (hmi : mi = (m : Int)) (us : List Entry) (hn : us.length = n) {w0 w : World} {L : List Ent} (H : Hp w0 w L) (hmem : stoE A c n (mkE m us) ∈ L) (h0 : 0 < m) (hm : m + cntE us ≤ 1125899906842624) :
    Calls Tryd.prog 20 #[.agg #[.slice A n c], .int .i64 mi] w fun e w' => e = .returned (.int .i64 ((m + cntE us : Nat) : Int)) ∧ Below w.heap.size w w' := by
  subst hmi
  obtain ⟨hr, hd⟩ := stoE_rd H hmem
  have H2 := Hp.nil w
  have hqn : ¬ ((m : Int) + (cntE us : Int)) < 0 := by omega
  go_enter Tryd.func20, Tryd.ntmps20
  go_wp2_with (go_at_call 50; refine (heldEntryS_any A n c m us hn _ (hr.grow (Hp.b (by repeat (first | (with_reducible exact H2) | (with_reducible apply Hp.alloc) | (with_reducible apply Hp.set) | (with_reducible apply Hp.drew) | (with_reducible apply Hp.drewN) | (with_reducible apply Hp.bytesW) | (with_reducible exact Upd.here) | (with_reducible exact Upd.hereR) | (with_reducible apply Upd.there) | (with_reducible apply Sz.alloc) | (with_reducible apply Sz.set) | (with_reducible apply Sz.drew) | (with_reducible apply Sz.drewN) | (with_reducible apply Sz.bytesW) | (with_reducible assumption) | (with_reducible exact Sz.base _))))) (fun v hv => (hd v hv).step (Hp.b (by repeat (first | (with_reducible exact H2) | (with_reducible apply Hp.alloc) | (with_reducible apply Hp.set) | (with_reducible apply Hp.drew) | (with_reducible apply Hp.drewN) | (with_reducible apply Hp.bytesW) | (with_reducible exact Upd.here) | (with_reducible exact Upd.hereR) | (with_reducible apply Upd.there) | (with_reducible apply Sz.alloc) | (with_reducible apply Sz.set) | (with_reducible apply Sz.drew) | (with_reducible apply Sz.drewN) | (with_reducible apply Sz.bytesW) | (with_reducible assumption) | (with_reducible exact Sz.base _))))) h0 hm).mono ?_; rintro e w1 ⟨rfl, q1⟩; replace H2 := Hp.step (by repeat (first | (with_reducible exact H2) | (with_reducible apply Hp.alloc) | (with_reducible apply Hp.set) | (with_reducible apply Hp.drew) | (with_reducible apply Hp.drewN) | (with_reducible apply Hp.bytesW) | (with_reducible exact Upd.here) | (with_reducible exact Upd.hereR) | (with_reducible apply Upd.there) | (with_reducible apply Sz.alloc) | (with_reducible apply Sz.set) | (with_reducible apply Sz.drew) | (with_reducible apply Sz.drewN) | (with_reducible apply Sz.bytesW) | (with_reducible assumption) | (with_reducible exact Sz.base _))) q1; (try simp only [List.set_cons_zero, List.set_cons_succ, List.cons_append, List.nil_append] at H2); clear q1)
  go_ret
  exact ⟨by simp, Hp.b (by repeat (first | (with_reducible exact H2) | (with_reducible apply Hp.alloc) | (with_reducible apply Hp.set) | (with_reducible apply Hp.drew) | (with_reducible apply Hp.drewN) | (with_reducible apply Hp.bytesW) | (with_reducible exact Upd.here) | (with_reducible exact Upd.hereR) | (with_reducible apply Upd.there) | (with_reducible apply Sz.alloc) | (with_reducible apply Sz.set) | (with_reducible apply Sz.drew) | (with_reducible apply Sz.drewN) | (with_reducible apply Sz.bytesW) | (with_reducible assumption) | (with_reducible exact Sz.base _)))⟩
end Go.Proofs.YteimapjiidekoaaDoor

/- FnQuiet: the walk. No condition. -/
import Derived.Test.YtnhdpcmnnjgdkaaDrawQ
import Derived.Test.YtnhdpcmnnjgdkaaQuietP
import Derived.Test.YtnhdpcmnnjgdkaaQuietB
import Derived.Test.YtnhdpcmnnjgdkaaRunJ
import Derived.Deep.DeepCutAuto
set_option linter.unusedVariables false
set_option linter.unusedSimpArgs false
namespace Go.Proofs.Ytnhdpcmnnjgdkaa
open Go.RowKit
set_option linter.unusedVariables false
set_option linter.unusedSimpArgs false
theorem bigQ_any (A : Option Addr) (n c : Nat) (w : World) (hm : n ≤ maxLen) :
    Calls Try.prog 4 #[.slice A n c] w fun e w' => e = .returned (.bool (decide (1048576 < n))) ∧ w = w' := by
  unfold maxLen at hm
  by_cases h : 1048576 < n
  · go_enter Try.func4, Try.ntmps4
    go_wp2
    go_ret
    exact ⟨by simp; omega, rfl⟩
  · go_enter Try.func4, Try.ntmps4
    go_wp2
    go_ret
    exact ⟨by simp; omega, rfl⟩
theorem jobFits_fits {j : Job} (h : jobFits j = true) : JobFits j := by
  have := nm_size (jobFits_iff.1 h).1
  unfold JobFits maxLen; omega
theorem rounds_us (s : QS) : ∀ k : Nat, ∀ u ∈ (roundsQ s k).us, u ∈ s.us
  | 0 => fun u hu => hu
  | k + 1 => fun u hu => rounds_us s k u (runQ_us u hu)
theorem runQ_sum {js : List Job} {us : List User} {fail now : Int} {r : RQ} (h : runQ js us fail now = r) : r.gone.length + r.given.length ≤ js.length := by
  have := (runQ_perm js us fail now).length_eq
  rw [h] at this
  simp [nmQ] at this
  omega
theorem rounds_sum {js : List Job} {us : List User} {fail : Int} (k : Nat) : (roundsQ ⟨js, us, fail, []⟩ k).told.length + (roundsQ ⟨js, us, fail, []⟩ k).js.length = js.length := by
  have := (rounds_perm ⟨js, us, fail, []⟩ k).length_eq
  simpa using this
theorem strQ_at {w0 W : World} {M : List Ent} {g d : Nat} {us : List ByteArray} {k : Nat} (h : Hp w0 W M) (hm : rStr (some ⟨g, 0, none⟩) d us ∈ M) (hk : k < us.length) : W.cell? ⟨g, k, none⟩ = some (.string us[k]) :=
  ownQ_at (h.rowM (show row 9 1 (.slice (some ⟨g, 0, none⟩) us.length d) us.length (us.flatMap encStr) ∈ M from hm)) (by
    have h9 := flat_get encStr 1 encStr_len us k 0 (by omega)
    rw [Nat.mul_one, Nat.add_zero, List.getElem?_eq_getElem hk] at h9
    exact h9)
set_option maxHeartbeats 32000000 in
set_option maxRecDepth 10000 in
theorem lawQuiet (A : Option Addr) (n c : Nat) (bs : List UInt8) (w : World) (hr : Rd w w.heap.size 1 A n c (bs.flatMap encByte)) (hn : bs.length = n) :
    Calls Try.prog 3 #[.slice A n c] w fun e w' => e = .returned (.bool true) ∧ Below w.heap.size w w' := by
  obtain ⟨i0, hi0, hz0, hz1, hz2⟩ := info_parts Try.infoStr
  have H := Hp.nil w
  have hnm : n ≤ maxLen := Nat.le_trans hr.2.1 hr.2.2.1
  by_cases hbig : 1048576 < n
  · go_enter Try.func3, Try.ntmps3
    go_wp2_with fail
    refine (bigQ_any A n c _ hnm).mono ?_
    rintro e w0 ⟨rfl, rfl⟩
    rw [decide_eq_true hbig]
    go_wp2_with fail
    go_ret
    exact ⟨rfl, Hp.b (by repeat (first | (with_reducible exact H) | (with_reducible apply Hp.alloc) | (with_reducible apply Hp.set) | (with_reducible apply Hp.drew) | (with_reducible apply Hp.drewN) | (with_reducible apply Hp.bytesW) | (with_reducible exact Upd.here) | (with_reducible exact Upd.hereR) | (with_reducible apply Upd.there) | (with_reducible apply Sz.alloc) | (with_reducible apply Sz.set) | (with_reducible apply Sz.drew) | (with_reducible apply Sz.drewN) | (with_reducible apply Sz.bytesW) | (with_reducible assumption) | (with_reducible exact Sz.base _)))⟩
  go_enter Try.func3, Try.ntmps3
  go_wp2_with fail
  refine (bigQ_any A n c _ hnm).mono ?_
  rintro e w0 ⟨rfl, rfl⟩
  rw [decide_eq_false hbig]
  clear hbig
  go_wp2_with fail
  refine (DrawQueueQuiet_hp A n c bs _ (hr.grow (Hp.b (by repeat (first | (with_reducible exact H) | (with_reducible apply Hp.alloc) | (with_reducible apply Hp.set) | (with_reducible apply Hp.drew) | (with_reducible apply Hp.drewN) | (with_reducible apply Hp.bytesW) | (with_reducible exact Upd.here) | (with_reducible exact Upd.hereR) | (with_reducible apply Upd.there) | (with_reducible apply Sz.alloc) | (with_reducible apply Sz.set) | (with_reducible apply Sz.drew) | (with_reducible apply Sz.drewN) | (with_reducible apply Sz.bytesW) | (with_reducible assumption) | (with_reducible exact Sz.base _))))) hn).mono ?_
  rintro e w1 ⟨A2, d2, js, A1, d1, us, fl, md, rfl, hjl, hul, hJ, hU, h1⟩
  replace H := Hp.call (by repeat (first | (with_reducible exact H) | (with_reducible apply Hp.alloc) | (with_reducible apply Hp.set) | (with_reducible apply Hp.drew) | (with_reducible apply Hp.drewN) | (with_reducible apply Hp.bytesW) | (with_reducible exact Upd.here) | (with_reducible exact Upd.hereR) | (with_reducible apply Upd.there) | (with_reducible apply Sz.alloc) | (with_reducible apply Sz.set) | (with_reducible apply Sz.drew) | (with_reducible apply Sz.drewN) | (with_reducible apply Sz.bytesW) | (with_reducible assumption) | (with_reducible exact Sz.base _))) h1; (try simp only [List.set_cons_zero, List.set_cons_succ, List.cons_append, List.nil_append] at H); clear h1; (try clear F); have F := H.facts; simp only [Facts, NeF, box, row, reg, cellsF, rJob, rUser, rStr, ne_eq, true_and, and_true, Nat.reduceAdd, Nat.zero_add] at F
  have HJF : Hid (∀ j ∈ js, JobFits j) := fun j hj => (hJ j hj).fits
  have HUF : Hid (∀ u ∈ us, UserFits u) := fun u hu => (hU u hu).fits
  clear hJ hU
  obtain ⟨z, hz⟩ : ∃ z, quietF js us fl md = z := ⟨_, rfl⟩
  have HZ := Lib.hid hz
  clear hz
  go_wp2_with fail
  refine call_atQ (w0 := w) (by repeat (first | (with_reducible exact H) | (with_reducible apply Hp.alloc) | (with_reducible apply Hp.set) | (with_reducible apply Hp.drew) | (with_reducible apply Hp.drewN) | (with_reducible apply Hp.bytesW) | (with_reducible exact Upd.here) | (with_reducible exact Upd.hereR) | (with_reducible apply Upd.there) | (with_reducible apply Sz.alloc) | (with_reducible apply Sz.set) | (with_reducible apply Sz.drew) | (with_reducible apply Sz.drewN) | (with_reducible apply Sz.bytesW) | (with_reducible assumption) | (with_reducible exact Sz.base _))) fun H7 => ?_
  (try simp only [List.set_cons_zero, List.set_cons_succ, List.cons_append, List.nil_append] at H7)
  refine (specQueueQuiet_any A2 js.length d2 js A1 us.length d1 us fl md _ (Hp.rdM H7 (show rJob A2 d2 js ∈ _ from (by repeat (first | (with_reducible exact List.mem_cons_self) | (with_reducible apply List.mem_cons_of_mem))))) rfl HJF.out (by omega) (Hp.rdM H7 (show rUser A1 d1 us ∈ _ from (by repeat (first | (with_reducible exact List.mem_cons_self) | (with_reducible apply List.mem_cons_of_mem))))) rfl HUF.out (by omega)).mono ?_
  rintro e w2 ⟨rfl, q2⟩
  rw [HZ.out]
  clear H F; have H := H7.step q2; clear q2 H7; (try simp only [List.set_cons_zero, List.set_cons_succ, List.cons_append, List.nil_append] at H); have F := H.facts; simp only [Facts, NeF, box, row, reg, cellsF, rJob, rUser, rStr, ne_eq, true_and, and_true, Nat.reduceAdd, Nat.zero_add] at F
  go_wp2_with fail
  refine call_atQ (w0 := w) (by repeat (first | (with_reducible exact H) | (with_reducible apply Hp.alloc) | (with_reducible apply Hp.set) | (with_reducible apply Hp.drew) | (with_reducible apply Hp.drewN) | (with_reducible apply Hp.bytesW) | (with_reducible exact Upd.here) | (with_reducible exact Upd.hereR) | (with_reducible apply Upd.there) | (with_reducible apply Sz.alloc) | (with_reducible apply Sz.set) | (with_reducible apply Sz.drew) | (with_reducible apply Sz.drewN) | (with_reducible apply Sz.bytesW) | (with_reducible assumption) | (with_reducible exact Sz.base _))) fun H7 => ?_
  (try simp only [List.set_cons_zero, List.set_cons_succ, List.cons_append, List.nil_append] at H7)
  refine (implQueueQuiet_any A2 js.length d2 js A1 us.length d1 us fl md _ (Hp.rdM H7 (show rJob A2 d2 js ∈ _ from (by repeat (first | (with_reducible exact List.mem_cons_self) | (with_reducible apply List.mem_cons_of_mem))))) rfl HJF.out (by omega) (Hp.rdM H7 (show rUser A1 d1 us ∈ _ from (by repeat (first | (with_reducible exact List.mem_cons_self) | (with_reducible apply List.mem_cons_of_mem))))) rfl HUF.out (by omega)).mono ?_
  rintro e w3 ⟨rfl, q3⟩
  rw [HZ.out]
  clear H F; have H := H7.step q3; clear q3 H7; (try simp only [List.set_cons_zero, List.set_cons_succ, List.cons_append, List.nil_append] at H); have F := H.facts; simp only [Facts, NeF, box, row, reg, cellsF, rJob, rUser, rStr, ne_eq, true_and, and_true, Nat.reduceAdd, Nat.zero_add] at F
  by_cases hneg : z < 0
  · go_wp2_with fail
    go_ret
    exact ⟨rfl, Hp.b (by repeat (first | (with_reducible exact H) | (with_reducible apply Hp.alloc) | (with_reducible apply Hp.set) | (with_reducible apply Hp.drew) | (with_reducible apply Hp.drewN) | (with_reducible apply Hp.bytesW) | (with_reducible exact Upd.here) | (with_reducible exact Upd.hereR) | (with_reducible apply Upd.there) | (with_reducible apply Sz.alloc) | (with_reducible apply Sz.set) | (with_reducible apply Sz.drew) | (with_reducible apply Sz.drewN) | (with_reducible apply Sz.bytesW) | (with_reducible assumption) | (with_reducible exact Sz.base _)))⟩
  obtain ⟨hq, hf, m, hm9, hzm, hl1, hl2, hl3⟩ := quiet_law (js := js) (us := us) (fail := fl) (made := md) (by rw [HZ.out]; omega)
  rw [HZ.out] at hzm
  subst hzm
  have HQ0 := Lib.hid hq
  have HF0 := Lib.hid hf
  have HL1 := Lib.hid hl1
  have HL2 := Lib.hid hl2
  have HL3 := Lib.hid hl3
  clear hq hf hl1 hl2 hl3 HZ hneg
  go_wp2_with fail
  have HH := Lib.hid H; clear H F
  go_loopw [6, 8, 9, 10, 11, 12, 13, 14] (fun s6 i s9 s10 s11 s12 s13 s14 wr => ∃ k : Nat, k ≤ m ∧ i = .int .i64 k ∧ ∃ (AT : Option Addr) (cT : Nat) (told : List ByteArray) (AQ : Option Addr) (cQ : Nat) (jq : List Job) (AF : Option Addr) (cF : Nat) (uq : List User) (fq : Int), s6 = .slice AT told.length cT ∧ Hid ((⟨jq, uq, fq, told⟩ : QS) = roundsQ ⟨js, us, fl, []⟩ k) ∧ Hid (Hp w wr [rStr AT cT told, box w1.heap.size 26 [.slice AQ jq.length cQ], box (w1.heap.size + 1) 29 [.slice AF uq.length cF, .int .i64 fq, .int .i64 md], rJob AQ cQ jq, rUser AF cF uq])) (fun _ i _ _ _ _ _ _ _ => m - (intOf i).toNat)
  case atStart =>
    have H := HH.out
    exact ⟨0, Nat.zero_le _, rfl, some ⟨w3.heap.size, 0, none⟩, 0, [], A2, d2, js, A1, d1, us, fl, rfl, by show _ = _; rfl, Lib.hid (Hp.give (Hp.boxRow (by repeat (first | (with_reducible exact H) | (with_reducible apply Hp.alloc) | (with_reducible apply Hp.set) | (with_reducible apply Hp.drew) | (with_reducible apply Hp.drewN) | (with_reducible apply Hp.bytesW) | (with_reducible exact Upd.here) | (with_reducible exact Upd.hereR) | (with_reducible apply Upd.there) | (with_reducible apply Sz.alloc) | (with_reducible apply Sz.set) | (with_reducible apply Sz.drew) | (with_reducible apply Sz.drewN) | (with_reducible apply Sz.bytesW) | (with_reducible assumption) | (with_reducible exact Sz.base _))) 0 1 0 0 (by rfl) (by rfl) (Nat.le_refl _) (Nat.zero_le _)) [0, 2, 1, 3, 4] (by decide) (by rfl))⟩
  case round =>
    clear HH
    obtain ⟨k, hk, rfl, AT, cT, told, AQ, cQ, jq, AF, cF, uq, fq, rfl, HS, HP⟩ := hrel
    have H := HP.out
    have F := H.facts; simp only [Facts, NeF, box, row, reg, cellsF, rJob, rUser, rStr, ne_eq, true_and, and_true, Nat.reduceAdd, Nat.zero_add] at F
    have hrk := rounds_ok HQ0.out HF0.out k (by omega)
    rw [← HS.out] at hrk
    have HQK := Lib.hid hrk.1
    have HFK := Lib.hid hrk.2
    have hsum : told.length + jq.length = js.length := by have := rounds_sum (js := js) (us := us) (fail := fl) k; rw [← HS.out] at this; exact this
    have hjq : jq.length ≤ 121 := by omega
    have htd : told.length ≤ 121 := by omega
    have huq : uq.length ≤ 1048576 := by have h9 := (farOk_iff.1 hrk.2).1; exact Nat.le_trans (show uq.length ≤ 120 from h9) (by omega)
    have HUQ : Hid (∀ u ∈ uq, UserFits u) := fun u hu => HUF.out u (by have := rounds_us ⟨js, us, fl, []⟩ k; rw [← HS.out] at this; exact this u hu)
    have HJQ : Hid (∀ j ∈ jq, JobFits j) := fun j hj => jobFits_fits ((queueOk_iff.1 HQK.out).2.1 j hj)
    clear hrk
    by_cases hlt : k < m
    · have hk1 : (k : Int) < (m : Int) := by omega
      have HK1 : Hid (k + 1 ≤ m ∧ m - (k + 1) < m - k) := ⟨by omega, by omega⟩
      obtain ⟨⟨out, us2, fl2, gone, given⟩, hrq⟩ : ∃ r, runQ jq uq fq (k : Int) = r := ⟨_, rfl⟩
      have HRQ := Lib.hid hrq
      have hsm : gone.length + given.length ≤ jq.length := runQ_sum hrq
      have hsl : told.length + gone.length + given.length ≤ 121 := by omega
      have hout : out.length ≤ 121 := by have h9 := (runQ_perm jq uq fq (k : Int)).length_eq; rw [hrq] at h9; simp [nmQ] at h9; omega
      have HS2 : Hid ((⟨out, us2, fl2, told ++ gone ++ given⟩ : QS) = roundsQ ⟨js, us, fl, []⟩ (k + 1)) := by
        show _ = roundQ (k : Int) (roundsQ ⟨js, us, fl, []⟩ k)
        rw [← HS.out]; unfold roundQ; rw [hrq]
      have HRF : Hid (runF jq uq fq md (k : Int) = ⟨out, us2, fl2, gone, given⟩) := by
        show _ = _
        rw [runF, if_pos ⟨HQK.out, HFK.out, inR_true.2 (by omega)⟩, hrq]
      have HUS2 : Hid (∀ u ∈ us2, UserFits u) := fun u hu => HUQ.out u (by have := runQ_us (js := jq) (us := uq) (fail := fq) (now := (k : Int)); rw [hrq] at this; exact this u hu)
      have HHAS : Hid (∀ x ∈ gone, ∀ p, hasB us2 fl2 md x p = false) := fun x hx p => by have := runQ_hasB jq uq fq (k : Int) md (x := x) (by rw [hrq]; exact hx) p; rw [hrq] at this; exact this
      have HGS : Hid (∀ x ∈ gone, x.size ≤ maxLen) := fun x hx => by
        have h9 := (runQ_perm jq uq fq (k : Int)).mem_iff (a := x)
        rw [hrq] at h9
        obtain ⟨j, hj, rfl⟩ := List.mem_map.1 (h9.1 (by simp [nmQ]; exact .inr (.inl hx)))
        exact HJQ.out j hj
      clear hrq hlt hsum hsm
      go_wp2_with fail
      refine call_atQ (w0 := w) (by repeat (first | (with_reducible exact H) | (with_reducible apply Hp.alloc) | (with_reducible apply Hp.set) | (with_reducible apply Hp.drew) | (with_reducible apply Hp.drewN) | (with_reducible apply Hp.bytesW) | (with_reducible exact Upd.here) | (with_reducible exact Upd.hereR) | (with_reducible apply Upd.there) | (with_reducible apply Sz.alloc) | (with_reducible apply Sz.set) | (with_reducible apply Sz.drew) | (with_reducible apply Sz.drewN) | (with_reducible apply Sz.bytesW) | (with_reducible assumption) | (with_reducible exact Sz.base _))) fun H7 => ?_
      (try simp only [List.set_cons_zero, List.set_cons_succ, List.cons_append, List.nil_append] at H7)
      refine (implRunQueue_hp AQ jq.length cQ jq AF uq.length cF uq fq md (k : Int) _ (Hp.rdM H7 (show rJob AQ cQ jq ∈ _ from (by repeat (first | (with_reducible exact List.mem_cons_self) | (with_reducible apply List.mem_cons_of_mem))))) rfl HJQ.out (by omega) (Hp.rdM H7 (show rUser AF cF uq ∈ _ from (by repeat (first | (with_reducible exact List.mem_cons_self) | (with_reducible apply List.mem_cons_of_mem))))) rfl HUQ.out huq).mono ?_
      intro e w4 h4
      rw [HRF.out] at h4
      obtain ⟨AO, AH, AG, AV, cO, cH, cG, cV, rfl, h5⟩ := h4
      clear H F
      have H := Hp.call H7 h5
      clear h5 H7
      (try simp only [List.set_cons_zero, List.set_cons_succ, List.cons_append, List.nil_append] at H); have F := H.facts; simp only [Facts, NeF, box, row, reg, cellsF, rJob, rUser, rStr, ne_eq, true_and, and_true, Nat.reduceAdd, Nat.zero_add] at F
      dsimp only at H F ⊢
      go_wp2_with fail
      have HH := Lib.hid H; clear H F
      go_loopw [6, 13] (fun s6 i wr => ∃ j : Nat, j ≤ gone.length ∧ i = .int .i64 j ∧ ∃ (AT : Option Addr) (cT : Nat) (tl : List ByteArray), s6 = .slice AT tl.length cT ∧ Hid (tl = told ++ gone.take j) ∧ Hid (Hp w wr [rStr AT cT tl, box (w4.heap.size + 1) 29 [.slice AH us2.length cH, .int .i64 fl2, .int .i64 md], box w4.heap.size 26 [.slice AO out.length cO], rJob AO cO out, rUser AH cH us2, rStr AG cG gone, rStr AV cV given, box w1.heap.size 26 [.slice AQ jq.length cQ], box (w1.heap.size + 1) 29 [.slice AF uq.length cF, .int .i64 fq, .int .i64 md]])) (fun _ i _ => gone.length - (intOf i).toNat)
      case atStart =>
        have H := HH.out
        exact ⟨0, Nat.zero_le _, rfl, AT, cT, told, rfl, by show _ = _; simp, Lib.hid (by refine Hp.sel (by repeat (first | (with_reducible exact H) | (with_reducible apply Hp.alloc) | (with_reducible apply Hp.set) | (with_reducible apply Hp.drew) | (with_reducible apply Hp.drewN) | (with_reducible apply Hp.bytesW) | (with_reducible exact Upd.here) | (with_reducible exact Upd.hereR) | (with_reducible apply Upd.there) | (with_reducible apply Sz.alloc) | (with_reducible apply Sz.set) | (with_reducible apply Sz.drew) | (with_reducible apply Sz.drewN) | (with_reducible apply Sz.bytesW) | (with_reducible assumption) | (with_reducible exact Sz.base _))) ?_; (try simp only [List.set_cons_zero, List.set_cons_succ]); exact (by repeat (first | (with_reducible exact Sel.nil) | (with_reducible apply Sel.cons) | (with_reducible exact Del.here) | (with_reducible apply Del.there))))⟩
      case round =>
        clear HH
        obtain ⟨j, hj, rfl, AT, cT, tl, rfl, HT, HP⟩ := hrel
        have H := HP.out
        have F := H.facts; simp only [Facts, NeF, box, row, reg, cellsF, rJob, rUser, rStr, ne_eq, true_and, and_true, Nat.reduceAdd, Nat.zero_add] at F
        have htl : tl.length ≤ told.length + j := by have := HT.out; rw [this, List.length_append, List.length_take]; omega
        by_cases hlt : j < gone.length
        · have hj1 : (j : Int) < (gone.length : Int) := by omega
          have hj0 : (0 : Int) ≤ (j : Int) := by omega
          have hl1 : tl.length + 1 ≤ maxLen := by unfold maxLen; omega
          have ht9 : tl.length ≤ 121 := by omega
          have HK2 : Hid (j + 1 ≤ gone.length ∧ gone.length - (j + 1) < gone.length - j) := ⟨by omega, by omega⟩
          obtain ⟨g1, rfl⟩ := rowGq (H.rowM (show rStr AG cG gone ∈ _ from (by repeat (first | (with_reducible exact List.mem_cons_self) | (with_reducible apply List.mem_cons_of_mem))))) (by omega)
          have HC8 : Hid (∀ (W : World) (M : List Ent), Hp w W M → rStr (some ⟨g1, 0, none⟩) cG gone ∈ M → W.cell? ⟨g1, j, none⟩ = some (.string gone[j])) := fun W M h hm9 => strQ_at h hm9 hlt
          have HT2 : Hid (tl ++ [gone[j]] = told ++ gone.take (j + 1)) := by show _ = _; rw [HT.out, List.take_succ_eq_append_getElem hlt, List.append_assoc]
          have hxs := HGS.out _ (List.getElem_mem hlt)
          have HHX := Lib.hid (HHAS.out _ (List.getElem_mem hlt))
          generalize gone[j] = x at *
          clear hlt htl
          have c9 := HC8.out _ _ H (by repeat (first | (with_reducible exact List.mem_cons_self) | (with_reducible apply List.mem_cons_of_mem)))
          go_upto_region 18 with fail
          (refine wp_region_quiet (C := fun W => Hp w W [rStr AT cT tl, box (w4.heap.size + 1) 29 [.slice AH us2.length cH, .int .i64 fl2, .int .i64 md], box w4.heap.size 26 [.slice AO out.length cO], rJob AO cO out, rUser AH cH us2, rStr (some ⟨g1, 0, none⟩) cG gone, rStr AV cV given, box w1.heap.size 26 [.slice AQ jq.length cQ], box (w1.heap.size + 1) 29 [.slice AF uq.length cF, .int .i64 fq, .int .i64 md]]) (by kernel_rfl) (by kernel_rfl) (by show Hp _ (World.drew _) _; exact (by repeat (first | (with_reducible exact H) | (with_reducible apply Hp.alloc) | (with_reducible apply Hp.set) | (with_reducible apply Hp.drew) | (with_reducible apply Hp.drewN) | (with_reducible apply Hp.bytesW) | (with_reducible exact Upd.here) | (with_reducible exact Upd.hereR) | (with_reducible apply Upd.there) | (with_reducible apply Sz.alloc) | (with_reducible apply Sz.set) | (with_reducible apply Sz.drew) | (with_reducible apply Sz.drewN) | (with_reducible apply Sz.bytesW) | (with_reducible assumption) | (with_reducible exact Sz.base _)))) ?_; (repeat (first | go_big_quiet_skip | (refine BigFrame.wpQuiet_want (by rfl) (fun K hK => ?_); unfold Oper.quiet; apply Exists.intro; refine ⟨fun W hW => ?_, hK _ ?_⟩; (focus (have G := hW.facts; simp only [Facts, NeF, box, row, reg, cellsF, rJob, rUser, rStr, ne_eq, true_and, and_true, Nat.reduceAdd, Nat.zero_add] at G; have c8 := HC8.out _ _ hW (by repeat (first | (with_reducible exact List.mem_cons_self) | (with_reducible apply List.mem_cons_of_mem))); go_simp; first | rfl | (go_at_call 10; refine (specUserPass_any 7 x _ hxs).mono ?_; rintro e w' ⟨rfl, hb⟩; exact ⟨rfl, hW.step hb⟩) | (go_at_call 9; refine (implHasUser_any AH us2.length cH us2 fl2 md x (passF 7 x) _ (Hp.rdM hW (show rUser AH cH us2 ∈ _ from (by repeat (first | (with_reducible exact List.mem_cons_self) | (with_reducible apply List.mem_cons_of_mem))))) rfl HUS2.out).mono ?_; rintro e w' ⟨rfl, hb⟩; rw [HHX.out]; exact ⟨rfl, hW.step hb⟩))); clear hK K; simp only [Act.put, List.setIfInBounds_toArray, List.set_cons_zero, List.set_cons_succ]))); refine wpQuiet_nil ?_; intro wq H; have F := H.facts; simp only [Facts, NeF, box, row, reg, cellsF, rJob, rUser, rStr, ne_eq, true_and, and_true, Nat.reduceAdd, Nat.zero_add] at F)
          all_goals
            have c7 := HC8.out _ _ H (by repeat (first | (with_reducible exact List.mem_cons_self) | (with_reducible apply List.mem_cons_of_mem)))
            clear c9
            go_wp2_with (first | (at_builtin; refine wpList_append_lies _ (by rfl) _ _ 33 (by rfl) w.heap.size 9 i0 _ 1 _ Try.underlying33 hi0 hz0 hz1 hz2 (by rfl) (by decide) (.slice AT (tl.length) cT) (tl.length) _ (by rfl) (Hp.rowM (by repeat (first | (with_reducible exact H) | (with_reducible apply Hp.alloc) | (with_reducible apply Hp.set) | (with_reducible apply Hp.drew) | (with_reducible apply Hp.drewN) | (with_reducible apply Hp.bytesW) | (with_reducible exact Upd.here) | (with_reducible exact Upd.hereR) | (with_reducible apply Upd.there) | (with_reducible apply Sz.alloc) | (with_reducible apply Sz.set) | (with_reducible apply Sz.drew) | (with_reducible apply Sz.drewN) | (with_reducible apply Sz.bytesW) | (with_reducible assumption) | (with_reducible exact Sz.base _))) (by repeat (first | (with_reducible exact List.mem_cons_self) | (with_reducible apply List.mem_cons_of_mem)))) ⟨wq.heap.size, 0, none⟩ 1 1 (encStr x) (by rfl) (by rfl) (Hp.news (by repeat (first | (with_reducible exact H) | (with_reducible apply Hp.alloc) | (with_reducible apply Hp.set) | (with_reducible apply Hp.drew) | (with_reducible apply Hp.drewN) | (with_reducible apply Hp.bytesW) | (with_reducible exact Upd.here) | (with_reducible exact Upd.hereR) | (with_reducible apply Upd.there) | (with_reducible apply Sz.alloc) | (with_reducible apply Sz.set) | (with_reducible apply Sz.drew) | (with_reducible apply Sz.drewN) | (with_reducible apply Sz.bytesW) | (with_reducible assumption) | (with_reducible exact Sz.base _))) 0 (by rfl)) (oneStr x) (by decide) hl1 (by omega) (Hp.b (by repeat (first | (with_reducible exact H) | (with_reducible apply Hp.alloc) | (with_reducible apply Hp.set) | (with_reducible apply Hp.drew) | (with_reducible apply Hp.drewN) | (with_reducible apply Hp.bytesW) | (with_reducible exact Upd.here) | (with_reducible exact Upd.hereR) | (with_reducible apply Upd.there) | (with_reducible apply Sz.alloc) | (with_reducible apply Sz.set) | (with_reducible apply Sz.drew) | (with_reducible apply Sz.drewN) | (with_reducible apply Sz.bytesW) | (with_reducible assumption) | (with_reducible exact Sz.base _)))).size _ rfl ?_; intro g cap wa hown hgrow hat hlt1; have H5 := Hp.appM (by repeat (first | (with_reducible exact H) | (with_reducible apply Hp.alloc) | (with_reducible apply Hp.set) | (with_reducible apply Hp.drew) | (with_reducible apply Hp.drewN) | (with_reducible apply Hp.bytesW) | (with_reducible exact Upd.here) | (with_reducible exact Upd.hereR) | (with_reducible apply Upd.there) | (with_reducible apply Sz.alloc) | (with_reducible apply Sz.set) | (with_reducible apply Sz.drew) | (with_reducible apply Sz.drewN) | (with_reducible apply Sz.bytesW) | (with_reducible assumption) | (with_reducible exact Sz.base _))) (by repeat (first | (with_reducible exact Rep.here) | (with_reducible apply Rep.there))) hown hgrow hat rfl hlt1; (try simp only [List.set_cons_zero, List.set_cons_succ, List.cons_append, List.nil_append] at H5); have FA := H5.facts; simp only [Facts, NeF, box, row, reg, cellsF, rJob, rUser, rStr, ne_eq, true_and, and_true, Nat.reduceAdd, Nat.zero_add] at FA))
            rw [rStr_snoc] at H5
            go_roundw
            case rel => exact ⟨j + 1, HK2.out.1, by go_num, some ⟨g, 0, none⟩, cap, tl ++ [x], by simp, HT2, Lib.hid (by simpa using (by refine Hp.sel (by repeat (first | (with_reducible exact H5) | (with_reducible apply Hp.alloc) | (with_reducible apply Hp.set) | (with_reducible apply Hp.drew) | (with_reducible apply Hp.drewN) | (with_reducible apply Hp.bytesW) | (with_reducible exact Upd.here) | (with_reducible exact Upd.hereR) | (with_reducible apply Upd.there) | (with_reducible apply Sz.alloc) | (with_reducible apply Sz.set) | (with_reducible apply Sz.drew) | (with_reducible apply Sz.drewN) | (with_reducible apply Sz.bytesW) | (with_reducible assumption) | (with_reducible exact Sz.base _))) ?_; (try simp only [List.set_cons_zero, List.set_cons_succ]); exact (by repeat (first | (with_reducible exact Sel.nil) | (with_reducible apply Sel.cons) | (with_reducible exact Del.here) | (with_reducible apply Del.there)))))⟩
            case measure => have := HK2.out.2; simp [intOf]; omega
        · have hj1 : ¬ (j : Int) < (gone.length : Int) := by omega
          have HT3 : Hid (tl = told ++ gone) := by show _ = _; rw [HT.out, List.take_of_length_le (by omega)]
          clear HT hlt
          go_wp2_with fail
          have HH := Lib.hid H; clear H F HP
          go_loopw [6, 14] (fun s6 i wr => ∃ j : Nat, j ≤ given.length ∧ i = .int .i64 j ∧ ∃ (AT : Option Addr) (cT : Nat) (tl : List ByteArray), s6 = .slice AT tl.length cT ∧ Hid (tl = told ++ gone ++ given.take j) ∧ Hid (Hp w wr [rStr AT cT tl, box (w4.heap.size + 1) 29 [.slice AH us2.length cH, .int .i64 fl2, .int .i64 md], box w4.heap.size 26 [.slice AO out.length cO], rJob AO cO out, rUser AH cH us2, rStr AG cG gone, rStr AV cV given, box w1.heap.size 26 [.slice AQ jq.length cQ], box (w1.heap.size + 1) 29 [.slice AF uq.length cF, .int .i64 fq, .int .i64 md]])) (fun _ i _ => given.length - (intOf i).toNat)
          case atStart =>
            have H := HH.out
            exact ⟨0, Nat.zero_le _, rfl, AT, cT, tl, rfl, by show _ = _; rw [HT3.out]; simp, Lib.hid (by refine Hp.sel (by repeat (first | (with_reducible exact H) | (with_reducible apply Hp.alloc) | (with_reducible apply Hp.set) | (with_reducible apply Hp.drew) | (with_reducible apply Hp.drewN) | (with_reducible apply Hp.bytesW) | (with_reducible exact Upd.here) | (with_reducible exact Upd.hereR) | (with_reducible apply Upd.there) | (with_reducible apply Sz.alloc) | (with_reducible apply Sz.set) | (with_reducible apply Sz.drew) | (with_reducible apply Sz.drewN) | (with_reducible apply Sz.bytesW) | (with_reducible assumption) | (with_reducible exact Sz.base _))) ?_; (try simp only [List.set_cons_zero, List.set_cons_succ]); exact (by repeat (first | (with_reducible exact Sel.nil) | (with_reducible apply Sel.cons) | (with_reducible exact Del.here) | (with_reducible apply Del.there))))⟩
          case round =>
            clear HH HT3 htl
            obtain ⟨j, hj, rfl, AT, cT, tl, rfl, HT, HP⟩ := hrel
            have H := HP.out
            have F := H.facts; simp only [Facts, NeF, box, row, reg, cellsF, rJob, rUser, rStr, ne_eq, true_and, and_true, Nat.reduceAdd, Nat.zero_add] at F
            have htl : tl.length ≤ told.length + gone.length + j := by have := HT.out; rw [this, List.length_append, List.length_append, List.length_take]; omega
            by_cases hlt : j < given.length
            · have hj1 : (j : Int) < (given.length : Int) := by omega
              have hj0 : (0 : Int) ≤ (j : Int) := by omega
              have hl1 : tl.length + 1 ≤ maxLen := by unfold maxLen; omega
              have ht9 : tl.length ≤ 121 := by omega
              have HK2 : Hid (j + 1 ≤ given.length ∧ given.length - (j + 1) < given.length - j) := ⟨by omega, by omega⟩
              obtain ⟨g1, rfl⟩ := rowGq (H.rowM (show rStr AV cV given ∈ _ from (by repeat (first | (with_reducible exact List.mem_cons_self) | (with_reducible apply List.mem_cons_of_mem))))) (by omega)
              have c9 := strQ_at H (show rStr (some ⟨g1, 0, none⟩) cV given ∈ _ from (by repeat (first | (with_reducible exact List.mem_cons_self) | (with_reducible apply List.mem_cons_of_mem)))) hlt
              have HT2 : Hid (tl ++ [given[j]] = told ++ gone ++ given.take (j + 1)) := by show _ = _; rw [HT.out, List.take_succ_eq_append_getElem hlt, List.append_assoc (told ++ gone)]
              generalize given[j] = x at *
              clear hlt htl
              go_wp2_with (first | (at_builtin; refine wpList_append_lies _ (by rfl) _ _ 33 (by rfl) w.heap.size 9 i0 _ 1 _ Try.underlying33 hi0 hz0 hz1 hz2 (by rfl) (by decide) (.slice AT (tl.length) cT) (tl.length) _ (by rfl) (Hp.rowM (by repeat (first | (with_reducible exact H) | (with_reducible apply Hp.alloc) | (with_reducible apply Hp.set) | (with_reducible apply Hp.drew) | (with_reducible apply Hp.drewN) | (with_reducible apply Hp.bytesW) | (with_reducible exact Upd.here) | (with_reducible exact Upd.hereR) | (with_reducible apply Upd.there) | (with_reducible apply Sz.alloc) | (with_reducible apply Sz.set) | (with_reducible apply Sz.drew) | (with_reducible apply Sz.drewN) | (with_reducible apply Sz.bytesW) | (with_reducible assumption) | (with_reducible exact Sz.base _))) (by repeat (first | (with_reducible exact List.mem_cons_self) | (with_reducible apply List.mem_cons_of_mem)))) ⟨wr.heap.size, 0, none⟩ 1 1 (encStr x) (by rfl) (by rfl) (Hp.news (by repeat (first | (with_reducible exact H) | (with_reducible apply Hp.alloc) | (with_reducible apply Hp.set) | (with_reducible apply Hp.drew) | (with_reducible apply Hp.drewN) | (with_reducible apply Hp.bytesW) | (with_reducible exact Upd.here) | (with_reducible exact Upd.hereR) | (with_reducible apply Upd.there) | (with_reducible apply Sz.alloc) | (with_reducible apply Sz.set) | (with_reducible apply Sz.drew) | (with_reducible apply Sz.drewN) | (with_reducible apply Sz.bytesW) | (with_reducible assumption) | (with_reducible exact Sz.base _))) 0 (by rfl)) (oneStr x) (by decide) hl1 (by omega) (Hp.b (by repeat (first | (with_reducible exact H) | (with_reducible apply Hp.alloc) | (with_reducible apply Hp.set) | (with_reducible apply Hp.drew) | (with_reducible apply Hp.drewN) | (with_reducible apply Hp.bytesW) | (with_reducible exact Upd.here) | (with_reducible exact Upd.hereR) | (with_reducible apply Upd.there) | (with_reducible apply Sz.alloc) | (with_reducible apply Sz.set) | (with_reducible apply Sz.drew) | (with_reducible apply Sz.drewN) | (with_reducible apply Sz.bytesW) | (with_reducible assumption) | (with_reducible exact Sz.base _)))).size _ rfl ?_; intro g cap wa hown hgrow hat hlt1; have H5 := Hp.appM (by repeat (first | (with_reducible exact H) | (with_reducible apply Hp.alloc) | (with_reducible apply Hp.set) | (with_reducible apply Hp.drew) | (with_reducible apply Hp.drewN) | (with_reducible apply Hp.bytesW) | (with_reducible exact Upd.here) | (with_reducible exact Upd.hereR) | (with_reducible apply Upd.there) | (with_reducible apply Sz.alloc) | (with_reducible apply Sz.set) | (with_reducible apply Sz.drew) | (with_reducible apply Sz.drewN) | (with_reducible apply Sz.bytesW) | (with_reducible assumption) | (with_reducible exact Sz.base _))) (by repeat (first | (with_reducible exact Rep.here) | (with_reducible apply Rep.there))) hown hgrow hat rfl hlt1; (try simp only [List.set_cons_zero, List.set_cons_succ, List.cons_append, List.nil_append] at H5); have FA := H5.facts; simp only [Facts, NeF, box, row, reg, cellsF, rJob, rUser, rStr, ne_eq, true_and, and_true, Nat.reduceAdd, Nat.zero_add] at FA))
              rw [rStr_snoc] at H5
              go_roundw
              case rel => exact ⟨j + 1, HK2.out.1, by go_num, some ⟨g, 0, none⟩, cap, tl ++ [x], by simp, HT2, Lib.hid (by simpa using (by refine Hp.sel (by repeat (first | (with_reducible exact H5) | (with_reducible apply Hp.alloc) | (with_reducible apply Hp.set) | (with_reducible apply Hp.drew) | (with_reducible apply Hp.drewN) | (with_reducible apply Hp.bytesW) | (with_reducible exact Upd.here) | (with_reducible exact Upd.hereR) | (with_reducible apply Upd.there) | (with_reducible apply Sz.alloc) | (with_reducible apply Sz.set) | (with_reducible apply Sz.drew) | (with_reducible apply Sz.drewN) | (with_reducible apply Sz.bytesW) | (with_reducible assumption) | (with_reducible exact Sz.base _))) ?_; (try simp only [List.set_cons_zero, List.set_cons_succ]); exact (by repeat (first | (with_reducible exact Sel.nil) | (with_reducible apply Sel.cons) | (with_reducible exact Del.here) | (with_reducible apply Del.there)))))⟩
              case measure => have := HK2.out.2; simp [intOf]; omega
            · have hj1 : ¬ (j : Int) < (given.length : Int) := by omega
              have HT3 : Hid (tl = told ++ gone ++ given) := by show _ = _; rw [HT.out, List.take_of_length_le (by omega)]
              clear HT hlt htl
              rw [← HT3.out] at HS2
              clear HT3
              go_wp2_with fail
              go_roundw
              case rel => exact ⟨k + 1, HK1.out.1, by go_num, AT, cT, tl, AO, cO, out, AH, cH, us2, fl2, rfl, HS2, Lib.hid (by refine Hp.sel (by repeat (first | (with_reducible exact H) | (with_reducible apply Hp.alloc) | (with_reducible apply Hp.set) | (with_reducible apply Hp.drew) | (with_reducible apply Hp.drewN) | (with_reducible apply Hp.bytesW) | (with_reducible exact Upd.here) | (with_reducible exact Upd.hereR) | (with_reducible apply Upd.there) | (with_reducible apply Sz.alloc) | (with_reducible apply Sz.set) | (with_reducible apply Sz.drew) | (with_reducible apply Sz.drewN) | (with_reducible apply Sz.bytesW) | (with_reducible assumption) | (with_reducible exact Sz.base _))) ?_; (try simp only [List.set_cons_zero, List.set_cons_succ]); exact (by repeat (first | (with_reducible exact Sel.nil) | (with_reducible apply Sel.cons) | (with_reducible exact Del.here) | (with_reducible apply Del.there))))⟩
              case measure => have := HK1.out.2; simp [intOf]; omega
    · have hk1 : ¬ (k : Int) < (m : Int) := by omega
      obtain rfl : k = m := by omega
      rw [← HS.out] at HL1 HL2 HL3
      have hj0 : jq = [] := HL1.out
      subst hj0
      have hlb : ((told.length : Int) == (js.length : Int)) = true := by rw [show told.length = js.length from HL2.out]; exact beq_self_eq_true _
      have HPW : Hid (told.Pairwise (· ≠ ·)) := HL3.out
      clear HL1 HL2 HL3 HS hlt hsum
      go_wp2_with fail
      have HH := Lib.hid H; clear H F HP
      go_loopw [15, 16] (fun i s16 wr => ∃ k : Nat, k ≤ told.length ∧ i = .int .i64 k ∧ Hid (Hp w wr [rStr AT cT told, box w1.heap.size 26 [.slice AQ ([] : List Job).length cQ], box (w1.heap.size + 1) 29 [.slice AF uq.length cF, .int .i64 fq, .int .i64 md], rUser AF cF uq])) (fun i _ _ => told.length - (intOf i).toNat)
      case atStart =>
        have H := HH.out
        exact ⟨0, Nat.zero_le _, rfl, Lib.hid (by refine Hp.sel (by repeat (first | (with_reducible exact H) | (with_reducible apply Hp.alloc) | (with_reducible apply Hp.set) | (with_reducible apply Hp.drew) | (with_reducible apply Hp.drewN) | (with_reducible apply Hp.bytesW) | (with_reducible exact Upd.here) | (with_reducible exact Upd.hereR) | (with_reducible apply Upd.there) | (with_reducible apply Sz.alloc) | (with_reducible apply Sz.set) | (with_reducible apply Sz.drew) | (with_reducible apply Sz.drewN) | (with_reducible apply Sz.bytesW) | (with_reducible assumption) | (with_reducible exact Sz.base _))) ?_; (try simp only [List.set_cons_zero, List.set_cons_succ]); exact (by repeat (first | (with_reducible exact Sel.nil) | (with_reducible apply Sel.cons) | (with_reducible exact Del.here) | (with_reducible apply Del.there))))⟩
      case round =>
        clear HH
        obtain ⟨k, hk, rfl, HP⟩ := hrel
        have H := HP.out
        have F := H.facts; simp only [Facts, NeF, box, row, reg, cellsF, rJob, rUser, rStr, ne_eq, true_and, and_true, Nat.reduceAdd, Nat.zero_add] at F
        by_cases hlt : k < told.length
        · have hk1 : (k : Int) < (told.length : Int) := by omega
          have hk0 : (0 : Int) ≤ (k : Int) := by omega
          have HK1 : Hid (k + 1 ≤ told.length ∧ told.length - (k + 1) < told.length - k) := ⟨by omega, by omega⟩
          obtain ⟨g1, rfl⟩ := rowGq (H.rowM (show rStr AT cT told ∈ _ from (by repeat (first | (with_reducible exact List.mem_cons_self) | (with_reducible apply List.mem_cons_of_mem))))) (by omega)
          go_wp2_with fail
          have HH := Lib.hid H; clear H F HP
          go_loopw [16] (fun i wr => ∃ j : Nat, j ≤ k ∧ i = .int .i64 j ∧ Hid (Hp w wr [rStr (some ⟨g1, 0, none⟩) cT told, box w1.heap.size 26 [.slice AQ ([] : List Job).length cQ], box (w1.heap.size + 1) 29 [.slice AF uq.length cF, .int .i64 fq, .int .i64 md], rUser AF cF uq])) (fun i _ => k - (intOf i).toNat)
          case atStart =>
            have H := HH.out
            exact ⟨0, Nat.zero_le _, rfl, Lib.hid (by refine Hp.sel (by repeat (first | (with_reducible exact H) | (with_reducible apply Hp.alloc) | (with_reducible apply Hp.set) | (with_reducible apply Hp.drew) | (with_reducible apply Hp.drewN) | (with_reducible apply Hp.bytesW) | (with_reducible exact Upd.here) | (with_reducible exact Upd.hereR) | (with_reducible apply Upd.there) | (with_reducible apply Sz.alloc) | (with_reducible apply Sz.set) | (with_reducible apply Sz.drew) | (with_reducible apply Sz.drewN) | (with_reducible apply Sz.bytesW) | (with_reducible assumption) | (with_reducible exact Sz.base _))) ?_; (try simp only [List.set_cons_zero, List.set_cons_succ]); exact (by repeat (first | (with_reducible exact Sel.nil) | (with_reducible apply Sel.cons) | (with_reducible exact Del.here) | (with_reducible apply Del.there))))⟩
          case round =>
            clear HH
            obtain ⟨j, hj, rfl, HP⟩ := hrel
            have H := HP.out
            have F := H.facts; simp only [Facts, NeF, box, row, reg, cellsF, rJob, rUser, rStr, ne_eq, true_and, and_true, Nat.reduceAdd, Nat.zero_add] at F
            by_cases hjk : j < k
            · have hj1 : (j : Int) < (k : Int) := by omega
              have hj2 : (j : Int) < (told.length : Int) := by omega
              have hj0 : (0 : Int) ≤ (j : Int) := by omega
              have HK2 : Hid (j + 1 ≤ k ∧ k - (j + 1) < k - j) := ⟨by omega, by omega⟩
              have c1 := strQ_at H (show rStr (some ⟨g1, 0, none⟩) cT told ∈ _ from (by repeat (first | (with_reducible exact List.mem_cons_self) | (with_reducible apply List.mem_cons_of_mem)))) (show j < told.length by omega)
              have c2 := strQ_at H (show rStr (some ⟨g1, 0, none⟩) cT told ∈ _ from (by repeat (first | (with_reducible exact List.mem_cons_self) | (with_reducible apply List.mem_cons_of_mem)))) hlt
              have hne : told[j] ≠ told[k] := List.pairwise_iff_getElem.1 HPW.out j k (by omega) hlt hjk
              have hnb : ((told[j]).toList == (told[k]).toList) = false := by
                have : eqB told[j] told[k] = false := by
                  cases h9 : eqB told[j] told[k] with
                  | false => rfl
                  | true => exact absurd (eqB_iff.1 h9) hne
                exact this
              clear hne hjk
              generalize told[j] = x1 at *
              generalize told[k] = x2 at *
              go_upto_region 33 with fail
              go_region
              go_wp2_with fail
              go_roundw
              case rel => exact ⟨j + 1, HK2.out.1, by go_num, Lib.hid (by refine Hp.sel (by repeat (first | (with_reducible exact H) | (with_reducible apply Hp.alloc) | (with_reducible apply Hp.set) | (with_reducible apply Hp.drew) | (with_reducible apply Hp.drewN) | (with_reducible apply Hp.bytesW) | (with_reducible exact Upd.here) | (with_reducible exact Upd.hereR) | (with_reducible apply Upd.there) | (with_reducible apply Sz.alloc) | (with_reducible apply Sz.set) | (with_reducible apply Sz.drew) | (with_reducible apply Sz.drewN) | (with_reducible apply Sz.bytesW) | (with_reducible assumption) | (with_reducible exact Sz.base _))) ?_; (try simp only [List.set_cons_zero, List.set_cons_succ]); exact (by repeat (first | (with_reducible exact Sel.nil) | (with_reducible apply Sel.cons) | (with_reducible exact Del.here) | (with_reducible apply Del.there))))⟩
              case measure => have := HK2.out.2; simp [intOf]; omega
            · have hj1 : ¬ (j : Int) < (k : Int) := by omega
              go_wp2_with fail
              go_roundw
              case rel => exact ⟨k + 1, HK1.out.1, by go_num, Lib.hid (by refine Hp.sel (by repeat (first | (with_reducible exact H) | (with_reducible apply Hp.alloc) | (with_reducible apply Hp.set) | (with_reducible apply Hp.drew) | (with_reducible apply Hp.drewN) | (with_reducible apply Hp.bytesW) | (with_reducible exact Upd.here) | (with_reducible exact Upd.hereR) | (with_reducible apply Upd.there) | (with_reducible apply Sz.alloc) | (with_reducible apply Sz.set) | (with_reducible apply Sz.drew) | (with_reducible apply Sz.drewN) | (with_reducible apply Sz.bytesW) | (with_reducible assumption) | (with_reducible exact Sz.base _))) ?_; (try simp only [List.set_cons_zero, List.set_cons_succ]); exact (by repeat (first | (with_reducible exact Sel.nil) | (with_reducible apply Sel.cons) | (with_reducible exact Del.here) | (with_reducible apply Del.there))))⟩
              case measure => have := HK1.out.2; simp [intOf]; omega
        · have hk1 : ¬ (k : Int) < (told.length : Int) := by omega
          go_wp2_with fail
          go_ret
          exact ⟨rfl, Hp.b (by repeat (first | (with_reducible exact H) | (with_reducible apply Hp.alloc) | (with_reducible apply Hp.set) | (with_reducible apply Hp.drew) | (with_reducible apply Hp.drewN) | (with_reducible apply Hp.bytesW) | (with_reducible exact Upd.here) | (with_reducible exact Upd.hereR) | (with_reducible apply Upd.there) | (with_reducible apply Sz.alloc) | (with_reducible apply Sz.set) | (with_reducible apply Sz.drew) | (with_reducible apply Sz.drewN) | (with_reducible apply Sz.bytesW) | (with_reducible assumption) | (with_reducible exact Sz.base _)))⟩
end Go.Proofs.Ytnhdpcmnnjgdkaa

/- FnListed: the walk. No condition. -/
import Derived.Test.YtklmcbabpncfmaaDoorListB
import Derived.Test.YtklmcbabpncfmaaDoorM4
import Derived.Deep.DeepCutAuto
namespace Go.Proofs.YtklmcbabpncfmaaDoor
open Go.RowKit
set_option linter.unusedVariables false
set_option linter.unusedSimpArgs false
theorem name_len {p s r : ByteArray} (h : restS p s = some r) : (nameS r).size ≤ s.size + 1 := by
  have h1 : r.size ≤ s.size := by
    by_cases hp : p.size = 0
    · rw [restS, if_pos hp] at h; injection h with h; subst h; exact Nat.le_refl _
    · have h2 := congrArg List.length (rest_data h hp).1
      simp at h2; omega
  have h2 : (headS r).size ≤ r.size := segsC_size (c := 47) (List.getElem_mem _)
  unfold nameS
  split
  · have h3 : (headS r ++ ⟨#[47]⟩ : ByteArray).size = (headS r).size + 1 := by simp; rfl
    omega
  · omega
theorem bigL_any (A : Option Addr) (n c : Nat) (w : World) (hm : n ≤ maxLen) :
    Calls Tryd.prog 6 #[.slice A n c] w fun e w' => e = .returned (.bool (decide (1048576 < n))) ∧ w = w' := by
  unfold maxLen at hm
  by_cases h : 1048576 < n
  · go_enter Tryd.func6, Tryd.ntmps6
    go_wp2
    go_ret
    exact ⟨by simp; omega, rfl⟩
  · go_enter Tryd.func6, Tryd.ntmps6
    go_wp2
    go_ret
    exact ⟨by simp; omega, rfl⟩
/-- Bounds that the contracts want. -/
def FitL (us : List Entry) : Prop := (∀ u ∈ us, u.path.size ≤ maxLen) ∧ (∀ u ∈ us, u.vs.length ≤ 1048576) ∧ (∀ u ∈ us, ∀ v ∈ u.vs, v.data.length ≤ 1048576) ∧ us.length ≤ 1048576
theorem fitL_d {us : List Entry} (h : StoD us) : FitL us := by
  refine ⟨fun u hu => ?_, fun u hu => ?_, fun u hu v hv => ?_, by have := h.1; omega⟩
  · have := (h.2 u hu).1; unfold maxLen; omega
  · have := (h.2 u hu).2.1; omega
  · have := (h.2 u hu).2.2 v hv; omega
theorem getKvL_at (A : Option Addr) (n c : Nat) (es : List Entry) (s : ByteArray) (ver : Int) (d : List UInt8) (cd nm : Int) (w : World) (hd : getF es s ver = ⟨d, cd, nm⟩) (hr : Rd w w.heap.size 3 A n c (es.flatMap encEntry)) (hn : es.length = n) (hsz : ∀ u ∈ es, u.path.size ≤ maxLen) (hdd : ∀ u ∈ es, DE 0 w u) (hml : mlOk w) :
    Calls Tryd.prog 11 #[.agg #[.slice A n c], .string s, .int .i64 ver] w fun e w' => ∃ A' c', e = .returned (.tuple #[.slice A' d.length c', .int .i64 cd, .int .i64 nm]) ∧ Hp w w' [rByte A' c' d] := implGetKv_hp A n c es s ver ⟨d, cd, nm⟩ w hd hr hn hsz hdd hml
set_option maxHeartbeats 2000000 in
theorem sameTexts_any (A A' : Option Addr) (n c c' : Nat) (us : List ByteArray) (w : World) (hr : Rd w w.heap.size 1 A n c (us.flatMap encStr)) (hr' : Rd w w.heap.size 1 A' n c' (us.flatMap encStr)) (hn : us.length = n) :
    Calls Tryd.prog 19 #[.slice A n c, .slice A' n c'] w fun e w' => e = .returned (.bool true) ∧ Below w.heap.size w w' := by
  have hc := hr.2.1
  have hm := hr.2.2.1
  have hc' := hr'.2.1
  unfold maxLen at hm
  go_enter Tryd.func19, Tryd.ntmps19
  go_wp2_with fail
  go_loopw [5] (fun i wr => ∃ k : Nat, k ≤ n ∧ i = .int .i64 k ∧ Below w.heap.size w wr) (fun i _ => n - (intOf i).toNat)
  case atStart => exact ⟨0, Nat.zero_le _, rfl, Below.refl _ _⟩
  case round =>
    obtain ⟨k, hk, rfl, HB⟩ := hrel
    by_cases hlt : k < n
    · obtain ⟨b, off, rfl, hb, hcell⟩ := hr.elem encStr_len hn hlt
      obtain ⟨b', off', rfl, hb', hcell'⟩ := hr'.elem encStr_len hn hlt
      have c0 := HB.cell (p := ⟨b, off + k * 1 + 0, none⟩) hb |>.trans (hcell 0 _ rfl)
      have e0 := HB.cell (p := ⟨b', off' + k * 1 + 0, none⟩) hb' |>.trans (hcell' 0 _ rfl)
      simp only [Nat.add_zero, Nat.mul_one] at c0 e0
      clear hcell hcell'
      generalize us[k] = u at *
      have hk1 : (k : Int) < (n : Int) := by omega
      have hk0 : (0 : Int) ≤ (k : Int) := by omega
      go_wp2_with fail
      try go_quiet (fail)
      all_goals
        go_wp2_with fail
        go_roundw
        case rel => exact ⟨k + 1, by omega, by go_num, by first | exact HB | exact below_drewN HB _⟩
        case measure => simp [intOf]; omega
    · go_wp2_with fail
      go_ret
      exact ⟨rfl, HB⟩
set_option maxHeartbeats 32000000 in
set_option maxRecDepth 10000 in
theorem lawListed (A : Option Addr) (n c : Nat) (bs : List UInt8) (w : World) (hr : Rd w w.heap.size 1 A n c (bs.flatMap encByte)) (hn : bs.length = n) (hml : mlOk w) :
    Calls Tryd.prog 4 #[.slice A n c] w fun e w' => e = .returned (.bool true) ∧ Below w.heap.size w w' := by
  have H := Hp.nil w
  have hnm : n ≤ maxLen := Nat.le_trans hr.2.1 hr.2.2.1
  by_cases hbig : 1048576 < n
  · go_enter Tryd.func4, Tryd.ntmps4
    go_wp2_with fail
    refine (bigL_any A n c _ hnm).mono ?_
    rintro e w0 ⟨rfl, rfl⟩
    rw [decide_eq_true hbig]
    go_wp2_with fail
    go_ret
    exact ⟨rfl, Hp.b (by repeat (first | (with_reducible exact H) | (with_reducible apply Hp.alloc) | (with_reducible apply Hp.set) | (with_reducible apply Hp.drew) | (with_reducible apply Hp.drewN) | (with_reducible apply Hp.bytesW) | (with_reducible exact Upd.here) | (with_reducible exact Upd.hereR) | (with_reducible apply Upd.there) | (with_reducible apply Sz.alloc) | (with_reducible apply Sz.set) | (with_reducible apply Sz.drew) | (with_reducible apply Sz.drewN) | (with_reducible apply Sz.bytesW) | (with_reducible assumption) | (with_reducible exact Sz.base _)))⟩
  go_enter Tryd.func4, Tryd.ntmps4
  go_wp2_with fail
  refine (bigL_any A n c _ hnm).mono ?_
  rintro e w0 ⟨rfl, rfl⟩
  rw [decide_eq_false hbig]
  go_wp2_with fail
  refine (DrawListKv_hp A n c bs _ (hr.grow (Hp.b (by repeat (first | (with_reducible exact H) | (with_reducible apply Hp.alloc) | (with_reducible apply Hp.set) | (with_reducible apply Hp.drew) | (with_reducible apply Hp.drewN) | (with_reducible apply Hp.bytesW) | (with_reducible exact Upd.here) | (with_reducible exact Upd.hereR) | (with_reducible apply Upd.there) | (with_reducible apply Sz.alloc) | (with_reducible apply Sz.set) | (with_reducible apply Sz.drew) | (with_reducible apply Sz.drewN) | (with_reducible apply Sz.bytesW) | (with_reducible assumption) | (with_reducible exact Sz.base _))))) hn).mono ?_
  rintro e w1 ⟨A1, c1, us, p, rfl, hS, hs9, h1⟩
  replace H := Hp.call (by repeat (first | (with_reducible exact H) | (with_reducible apply Hp.alloc) | (with_reducible apply Hp.set) | (with_reducible apply Hp.drew) | (with_reducible apply Hp.drewN) | (with_reducible apply Hp.bytesW) | (with_reducible exact Upd.here) | (with_reducible exact Upd.hereR) | (with_reducible apply Upd.there) | (with_reducible apply Sz.alloc) | (with_reducible apply Sz.set) | (with_reducible apply Sz.drew) | (with_reducible apply Sz.drewN) | (with_reducible apply Sz.bytesW) | (with_reducible assumption) | (with_reducible exact Sz.base _))) h1; (try simp only [List.set_cons_zero, List.set_cons_succ, List.cons_append, List.nil_append] at H); clear h1; (try clear F); have F := H.facts; simp only [Facts, NeF, box, row, reg, cellsF, rStr, rByte, ne_eq, true_and, and_true, Nat.reduceAdd, Nat.zero_add] at F
  have hf0 := fitL_d hS
  have HF0 := Lib.hid hf0
  have hsm : p.size ≤ maxLen := by unfold maxLen; omega
  have hs250 : p.size ≤ 250 := hs9
  clear hS hs9 hbig
  obtain ⟨ls, ok, hlr⟩ : ∃ a b, listR us p = (a, b) := ⟨_, _, rfl⟩
  have HLR := Lib.hid hlr
  go_wp2_with fail
  refine call_at (w0 := w) (by repeat (first | (with_reducible exact H) | (with_reducible apply Hp.alloc) | (with_reducible apply Hp.set) | (with_reducible apply Hp.drew) | (with_reducible apply Hp.drewN) | (with_reducible apply Hp.bytesW) | (with_reducible exact Upd.here) | (with_reducible exact Upd.hereR) | (with_reducible apply Upd.there) | (with_reducible apply Sz.alloc) | (with_reducible apply Sz.set) | (with_reducible apply Sz.drew) | (with_reducible apply Sz.drewN) | (with_reducible apply Sz.bytesW) | (with_reducible assumption) | (with_reducible exact Sz.base _))) fun H7 => ?_
  (try simp only [List.set_cons_zero, List.set_cons_succ, List.cons_append, List.nil_append] at H7)
  refine (specListKv_hp A1 us.length c1 us p ls ok _ hlr (stoE_rd H7 (A := A1) (c := c1) (n := us.length) (es := us) (by repeat (first | (with_reducible exact List.mem_cons_self) | (with_reducible apply List.mem_cons_of_mem)))).1 rfl hf0.1 (stoE_rd H7 (A := A1) (c := c1) (n := us.length) (es := us) (by repeat (first | (with_reducible exact List.mem_cons_self) | (with_reducible apply List.mem_cons_of_mem)))).2 hsm).mono ?_
  rintro e w2 ⟨A2, c2, rfl, h2⟩
  clear H F
  have H := Hp.call H7 h2
  clear h2 H7 hlr hf0
  (try simp only [List.set_cons_zero, List.set_cons_succ, List.cons_append, List.nil_append] at H)
  have F := H.facts; simp only [Facts, NeF, box, row, reg, cellsF, rStr, rByte, ne_eq, true_and, and_true, Nat.reduceAdd, Nat.zero_add] at F
  cases ok with
  | false =>
    go_wp2_with fail
    go_ret
    exact ⟨rfl, Hp.b (by repeat (first | (with_reducible exact H) | (with_reducible apply Hp.alloc) | (with_reducible apply Hp.set) | (with_reducible apply Hp.drew) | (with_reducible apply Hp.drewN) | (with_reducible apply Hp.bytesW) | (with_reducible exact Upd.here) | (with_reducible exact Upd.hereR) | (with_reducible apply Upd.there) | (with_reducible apply Sz.alloc) | (with_reducible apply Sz.set) | (with_reducible apply Sz.drew) | (with_reducible apply Sz.drewN) | (with_reducible apply Sz.bytesW) | (with_reducible assumption) | (with_reducible exact Sz.base _)))⟩
  | true =>
  go_wp2_with fail
  refine call_at (w0 := w) (by repeat (first | (with_reducible exact H) | (with_reducible apply Hp.alloc) | (with_reducible apply Hp.set) | (with_reducible apply Hp.drew) | (with_reducible apply Hp.drewN) | (with_reducible apply Hp.bytesW) | (with_reducible exact Upd.here) | (with_reducible exact Upd.hereR) | (with_reducible apply Upd.there) | (with_reducible apply Sz.alloc) | (with_reducible apply Sz.set) | (with_reducible apply Sz.drew) | (with_reducible apply Sz.drewN) | (with_reducible apply Sz.bytesW) | (with_reducible assumption) | (with_reducible exact Sz.base _))) fun H7 => ?_
  (try simp only [List.set_cons_zero, List.set_cons_succ, List.cons_append, List.nil_append] at H7)
  refine (implListKv_hp A1 us.length c1 us p ls true _ HLR.out (stoE_rd H7 (A := A1) (c := c1) (n := us.length) (es := us) (by repeat (first | (with_reducible exact List.mem_cons_self) | (with_reducible apply List.mem_cons_of_mem)))).1 rfl HF0.out.1 (stoE_rd H7 (A := A1) (c := c1) (n := us.length) (es := us) (by repeat (first | (with_reducible exact List.mem_cons_self) | (with_reducible apply List.mem_cons_of_mem)))).2 hsm (hml.on H7.b)).mono ?_
  rintro e w3 ⟨LA, lc, rfl, h3⟩
  clear H F
  have H := Hp.call H7 h3
  clear h3 H7
  (try simp only [List.set_cons_zero, List.set_cons_succ, List.cons_append, List.nil_append] at H)
  have F := H.facts; simp only [Facts, NeF, box, row, reg, cellsF, rStr, rByte, ne_eq, true_and, and_true, Nat.reduceAdd, Nat.zero_add] at F
  have hall : storeOk us = true ∧ prefF p = true ∧ listS us p = ls := by
    have h9 := HLR.out
    unfold listR at h9
    by_cases hq : (storeOk us && prefF p) = true
    · rw [if_pos hq] at h9
      rw [Bool.and_eq_true] at hq
      exact ⟨hq.1, hq.2, (Prod.mk.inj h9).1⟩
    · rw [if_neg hq] at h9
      have := (Prod.mk.inj h9).2; cases this
  have HA := Lib.hid hall
  have hl60 : ls.length ≤ 60 := by rw [← hall.2.2]; exact Nat.le_trans (list_len us p) (ok_entry hall.1).1
  clear hall HLR
  go_upto_region 10 with (go_at_call 19; refine (sameTexts_any LA A2 ls.length lc c2 ls _ (Hp.rdM (by repeat (first | (with_reducible exact H) | (with_reducible apply Hp.alloc) | (with_reducible apply Hp.set) | (with_reducible apply Hp.drew) | (with_reducible apply Hp.drewN) | (with_reducible apply Hp.bytesW) | (with_reducible exact Upd.here) | (with_reducible exact Upd.hereR) | (with_reducible apply Upd.there) | (with_reducible apply Sz.alloc) | (with_reducible apply Sz.set) | (with_reducible apply Sz.drew) | (with_reducible apply Sz.drewN) | (with_reducible apply Sz.bytesW) | (with_reducible assumption) | (with_reducible exact Sz.base _))) (by repeat (first | (with_reducible exact List.mem_cons_self) | (with_reducible apply List.mem_cons_of_mem)))) (Hp.rdM (by repeat (first | (with_reducible exact H) | (with_reducible apply Hp.alloc) | (with_reducible apply Hp.set) | (with_reducible apply Hp.drew) | (with_reducible apply Hp.drewN) | (with_reducible apply Hp.bytesW) | (with_reducible exact Upd.here) | (with_reducible exact Upd.hereR) | (with_reducible apply Upd.there) | (with_reducible apply Sz.alloc) | (with_reducible apply Sz.set) | (with_reducible apply Sz.drew) | (with_reducible apply Sz.drewN) | (with_reducible apply Sz.bytesW) | (with_reducible assumption) | (with_reducible exact Sz.base _))) (by repeat (first | (with_reducible exact List.mem_cons_self) | (with_reducible apply List.mem_cons_of_mem)))) rfl).mono ?_; rintro e w4 ⟨rfl, q4⟩; replace H := Hp.step (by repeat (first | (with_reducible exact H) | (with_reducible apply Hp.alloc) | (with_reducible apply Hp.set) | (with_reducible apply Hp.drew) | (with_reducible apply Hp.drewN) | (with_reducible apply Hp.bytesW) | (with_reducible exact Upd.here) | (with_reducible exact Upd.hereR) | (with_reducible apply Upd.there) | (with_reducible apply Sz.alloc) | (with_reducible apply Sz.set) | (with_reducible apply Sz.drew) | (with_reducible apply Sz.drewN) | (with_reducible apply Sz.bytesW) | (with_reducible assumption) | (with_reducible exact Sz.base _))) q4; (try simp only [List.set_cons_zero, List.set_cons_succ, List.cons_append, List.nil_append] at H); clear q4 F; have F := H.facts; simp only [Facts, NeF, box, row, reg, cellsF, rStr, rByte, ne_eq, true_and, and_true, Nat.reduceAdd, Nat.zero_add] at F)
  go_wp2_with fail
  have HH := Lib.hid H; clear H F
  go_loopw [9, 10, 11, 12, 13] (fun i s10 s11 s12 s13 wr => ∃ k : Nat, k ≤ ls.length ∧ i = .int .i64 k ∧ Hid (Hp w wr [rStr LA lc ls, stoE A1 c1 us.length us, box w1.heap.size 26 [.slice A1 us.length c1]])) (fun i _ _ _ _ _ => ls.length - (intOf i).toNat)
  case atStart =>
    have H := HH.out
    exact ⟨0, Nat.zero_le _, rfl, Lib.hid (by refine Hp.sel (by repeat (first | (with_reducible exact H) | (with_reducible apply Hp.alloc) | (with_reducible apply Hp.set) | (with_reducible apply Hp.drew) | (with_reducible apply Hp.drewN) | (with_reducible apply Hp.bytesW) | (with_reducible exact Upd.here) | (with_reducible exact Upd.hereR) | (with_reducible apply Upd.there) | (with_reducible apply Sz.alloc) | (with_reducible apply Sz.set) | (with_reducible apply Sz.drew) | (with_reducible apply Sz.drewN) | (with_reducible apply Sz.bytesW) | (with_reducible assumption) | (with_reducible exact Sz.base _))) ?_; (try simp only [List.set_cons_zero, List.set_cons_succ]); exact (by repeat (first | (with_reducible exact Sel.nil) | (with_reducible apply Sel.cons) | (with_reducible exact Del.here) | (with_reducible apply Del.there))))⟩
  case round =>
    clear HH
    obtain ⟨k, hk, rfl, HP⟩ := hrel
    have H := HP.out
    have F := H.facts; simp only [Facts, NeF, box, row, reg, cellsF, rStr, rByte, ne_eq, true_and, and_true, Nat.reduceAdd, Nat.zero_add] at F
    by_cases hlt : k < ls.length
    · have hk1 : (k : Int) < (ls.length : Int) := by omega
      have hk0 : (0 : Int) ≤ (k : Int) := by omega
      have HK1 : Hid (k + 1 ≤ ls.length ∧ ls.length - (k + 1) < ls.length - k) := ⟨by omega, by omega⟩
      obtain ⟨g5, rfl⟩ := rowGm (H.rowM (t := 9) (k := 1) (v := .slice LA ls.length lc) (n := ls.length) (xs := ls.flatMap encStr) (show rStr LA lc ls ∈ _ from (by repeat (first | (with_reducible exact List.mem_cons_self) | (with_reducible apply List.mem_cons_of_mem))))) (by omega)
      have hcell : ∀ (W : World), Hp w W [rStr (some ⟨g5, 0, none⟩) lc ls, stoE A1 c1 us.length us, box w1.heap.size 26 [.slice A1 us.length c1]] → ∀ j (hj : j < ls.length), W.cell? ⟨g5, j, none⟩ = some (.string ls[j]) := fun W HW j hj => own_at (j := j) (v := .string ls[j]) (HW.rowM (t := 9) (k := 1) (v := .slice (some ⟨g5, 0, none⟩) ls.length lc) (n := ls.length) (xs := ls.flatMap encStr) (show rStr (some ⟨g5, 0, none⟩) lc ls ∈ _ from (by repeat (first | (with_reducible exact List.mem_cons_self) | (with_reducible apply List.mem_cons_of_mem))))) (by
        have h9 := flat_get encStr 1 encStr_len ls j 0 (by omega)
        rw [Nat.mul_one, Nat.add_zero, List.getElem?_eq_getElem hj] at h9
        exact h9)
      have HCK : Hid (∀ (W : World), Hp w W [rStr (some ⟨g5, 0, none⟩) lc ls, stoE A1 c1 us.length us, box w1.heap.size 26 [.slice A1 us.length c1]] → W.cell? ⟨g5, k, none⟩ = some (.string ls[k])) := fun W HW => hcell W HW k hlt
      have c9 := HCK.out _ H
      obtain ⟨e, he, r, hre, hne⟩ := list_mem.1 (show ls[k] ∈ listS us p by rw [HA.out.2.2]; exact List.getElem_mem hlt)
      have hpe : pathF e.path = true := by
        have h9 := (storeOk_iff.1 HA.out.1).2.1 e he
        simp only [entOk, Bool.and_eq_true] at h9; exact h9.1
      have hx0 := name_ne hpe hre
      rw [hne] at hx0
      have hx9 := name_len hre
      rw [hne] at hx9
      have hep := (ok_entry HA.out.1).2 e he
      have hx8 : (ls[k]'hlt).size ≤ 121 := by omega
      have HEP := Lib.hid hep
      clear hep hx9
      have hx1 : 0 < (ls[k]'hlt).size := by
        rcases Nat.eq_zero_or_pos (ls[k]'hlt).size with h9 | h9
        · exact absurd (List.eq_nil_of_length_eq_zero (by simpa using h9)) hx0
        · exact h9
      have hup := List.pairwise_iff_getElem.1 (list_up us p)
      rcases Nat.eq_zero_or_pos k with hk9 | hk9
      · subst hk9
        clear hcell hup
        generalize (ls[0]'hlt) = x at *
        go_wp2_with fail
        (refine wp_region_quiet (C := fun W => Hp w W [rStr (some ⟨g5, 0, none⟩) lc ls, stoE A1 c1 us.length us, box w1.heap.size 26 [.slice A1 us.length c1]]) (by kernel_rfl) (by kernel_rfl) (by show Hp _ (World.drew _) _; exact (by repeat (first | (with_reducible exact H) | (with_reducible apply Hp.alloc) | (with_reducible apply Hp.set) | (with_reducible apply Hp.drew) | (with_reducible apply Hp.drewN) | (with_reducible apply Hp.bytesW) | (with_reducible exact Upd.here) | (with_reducible exact Upd.hereR) | (with_reducible apply Upd.there) | (with_reducible apply Sz.alloc) | (with_reducible apply Sz.set) | (with_reducible apply Sz.drew) | (with_reducible apply Sz.drewN) | (with_reducible apply Sz.bytesW) | (with_reducible assumption) | (with_reducible exact Sz.base _)))) ?_; (repeat (first | go_big_quiet_skip | (refine BigFrame.wpQuiet_want (by rfl) (fun K hK => ?_); unfold Oper.quiet; apply Exists.intro; refine ⟨fun W hW => ?_, hK _ ?_⟩; (focus (have G := hW.facts; simp only [Facts, NeF, box, row, reg, cellsF, rStr, rByte, ne_eq, true_and, and_true, Nat.reduceAdd, Nat.zero_add] at G; have q9 := HCK.out _ hW; go_simp; first | rfl | fail)); clear hK K; simp only [Act.put, List.setIfInBounds_toArray, List.set_cons_zero, List.set_cons_succ]))); refine wpQuiet_nil ?_; intro wq H; have F := H.facts; simp only [Facts, NeF, box, row, reg, cellsF, rStr, rByte, ne_eq, true_and, and_true, Nat.reduceAdd, Nat.zero_add] at F)
        have c9 := HCK.out _ H
        go_wp2_with fail
        obtain ⟨m, hxm⟩ : ∃ m, x.size = m + 1 := ⟨x.size - 1, by omega⟩
        have hm0 : (0 : Int) ≤ (m : Int) := by omega
        have hm2 : (m : Int) < (m : Int) + 1 := by omega
        have hwm : IntKind.i64.wrap (m : Int) = (m : Int) := by rw [IntKind.wrap_i64]; omega
        cases hc : (((x[m]'(by omega)).toNat : Int) == (47 : Int)) with
        | true =>
          (refine wp_region_quiet (C := fun W => Hp w W [rStr (some ⟨g5, 0, none⟩) lc ls, stoE A1 c1 us.length us, box w1.heap.size 26 [.slice A1 us.length c1]]) (by kernel_rfl) (by kernel_rfl) (by show Hp _ (World.drew _) _; exact (by repeat (first | (with_reducible exact H) | (with_reducible apply Hp.alloc) | (with_reducible apply Hp.set) | (with_reducible apply Hp.drew) | (with_reducible apply Hp.drewN) | (with_reducible apply Hp.bytesW) | (with_reducible exact Upd.here) | (with_reducible exact Upd.hereR) | (with_reducible apply Upd.there) | (with_reducible apply Sz.alloc) | (with_reducible apply Sz.set) | (with_reducible apply Sz.drew) | (with_reducible apply Sz.drewN) | (with_reducible apply Sz.bytesW) | (with_reducible assumption) | (with_reducible exact Sz.base _)))) ?_; (repeat (first | go_big_quiet_skip | (refine BigFrame.wpQuiet_want (by rfl) (fun K hK => ?_); unfold Oper.quiet; apply Exists.intro; refine ⟨fun W hW => ?_, hK _ ?_⟩; (focus (have G := hW.facts; simp only [Facts, NeF, box, row, reg, cellsF, rStr, rByte, ne_eq, true_and, and_true, Nat.reduceAdd, Nat.zero_add] at G; have q9 := HCK.out _ hW; go_simp; first | rfl | fail)); clear hK K; simp only [Act.put, List.setIfInBounds_toArray, List.set_cons_zero, List.set_cons_succ]))); refine wpQuiet_nil ?_; intro wq H; have F := H.facts; simp only [Facts, NeF, box, row, reg, cellsF, rStr, rByte, ne_eq, true_and, and_true, Nat.reduceAdd, Nat.zero_add] at F)
          go_wp2_with fail
          go_roundw
          case rel => exact ⟨_, HK1.out.1, by go_num, Lib.hid (by refine Hp.sel (by repeat (first | (with_reducible exact H) | (with_reducible apply Hp.alloc) | (with_reducible apply Hp.set) | (with_reducible apply Hp.drew) | (with_reducible apply Hp.drewN) | (with_reducible apply Hp.bytesW) | (with_reducible exact Upd.here) | (with_reducible exact Upd.hereR) | (with_reducible apply Upd.there) | (with_reducible apply Sz.alloc) | (with_reducible apply Sz.set) | (with_reducible apply Sz.drew) | (with_reducible apply Sz.drewN) | (with_reducible apply Sz.bytesW) | (with_reducible assumption) | (with_reducible exact Sz.base _))) ?_; (try simp only [List.set_cons_zero, List.set_cons_succ]); exact (by repeat (first | (with_reducible exact Sel.nil) | (with_reducible apply Sel.cons) | (with_reducible exact Del.here) | (with_reducible apply Del.there))))⟩
          case measure => have := HK1.out.2; simp [intOf]; omega
        | false =>
          (refine wp_region_quiet (C := fun W => Hp w W [rStr (some ⟨g5, 0, none⟩) lc ls, stoE A1 c1 us.length us, box w1.heap.size 26 [.slice A1 us.length c1]]) (by kernel_rfl) (by kernel_rfl) (by show Hp _ (World.drew _) _; exact (by repeat (first | (with_reducible exact H) | (with_reducible apply Hp.alloc) | (with_reducible apply Hp.set) | (with_reducible apply Hp.drew) | (with_reducible apply Hp.drewN) | (with_reducible apply Hp.bytesW) | (with_reducible exact Upd.here) | (with_reducible exact Upd.hereR) | (with_reducible apply Upd.there) | (with_reducible apply Sz.alloc) | (with_reducible apply Sz.set) | (with_reducible apply Sz.drew) | (with_reducible apply Sz.drewN) | (with_reducible apply Sz.bytesW) | (with_reducible assumption) | (with_reducible exact Sz.base _)))) ?_; (repeat (first | go_big_quiet_skip | (refine BigFrame.wpQuiet_want (by rfl) (fun K hK => ?_); unfold Oper.quiet; apply Exists.intro; refine ⟨fun W hW => ?_, hK _ ?_⟩; (focus (have G := hW.facts; simp only [Facts, NeF, box, row, reg, cellsF, rStr, rByte, ne_eq, true_and, and_true, Nat.reduceAdd, Nat.zero_add] at G; have q9 := HCK.out _ hW; go_simp; first | rfl | fail)); clear hK K; simp only [Act.put, List.setIfInBounds_toArray, List.set_cons_zero, List.set_cons_succ]))); refine wpQuiet_nil ?_; intro wq H; have F := H.facts; simp only [Facts, NeF, box, row, reg, cellsF, rStr, rByte, ne_eq, true_and, and_true, Nat.reduceAdd, Nat.zero_add] at F)
          have c9 := HCK.out _ H
          have hgl : x.data.toList.getLast? ≠ some 47 := by
            intro h9
            have h10 : x.data.toList[m]? = some 47 := by
              rw [List.getLast?_eq_getElem?] at h9
              have h11 : x.data.toList.length = m + 1 := by simpa using hxm
              rw [h11, Nat.add_sub_cancel] at h9; exact h9
            have h12 : (x[m]'(by omega)) = 47 := by
              have h13 : x.data.toList[m]? = some (x[m]'(by omega)) := by
                rw [List.getElem?_eq_getElem (by simp; omega)]; rfl
              rw [h13] at h10; injection h10
            rw [h12] at hc; simp at hc
          have hxr : x = r := by rw [← hne]; exact name_whole (by rw [hne]; exact hgl)
          obtain ⟨⟨gd, gc, gn⟩, hgr⟩ : ∃ gr, getF us e.path 0 = gr := ⟨_, rfl⟩
          have hgc := get_has HA.out.1 he
          rw [hgr] at hgc
          have hgc : gc = 0 ∨ gc = 3 ∨ gc = 4 := hgc
          by_cases hp0 : p.size = 0
          · have hp0d : p.toList.isEmpty = true := by rw [List.isEmpty_iff]; exact nil_size.2 hp0
            have hpx : e.path = x := by
              rw [restS, if_pos hp0] at hre
              injection hre with hre
              rw [hxr]; exact hre
            rw [hpx] at hgr
            clear hpx hxr hgl
            go_wp2_with fail
            have H8 := Lib.hid H
            refine (getKvL_at A1 us.length c1 us _ 0 gd gc gn _ hgr (stoE_rd H (A := A1) (c := c1) (n := us.length) (es := us) (by repeat (first | (with_reducible exact List.mem_cons_self) | (with_reducible apply List.mem_cons_of_mem)))).1 rfl HF0.out.1 (stoE_rd H (A := A1) (c := c1) (n := us.length) (es := us) (by repeat (first | (with_reducible exact List.mem_cons_self) | (with_reducible apply List.mem_cons_of_mem)))).2 (hml.on H.b)).mono ?_
            rintro e2 w5 ⟨Ga, ga, rfl, h5⟩
            clear H8
            replace H := Hp.call (by repeat (first | (with_reducible exact H) | (with_reducible apply Hp.alloc) | (with_reducible apply Hp.set) | (with_reducible apply Hp.drew) | (with_reducible apply Hp.drewN) | (with_reducible apply Hp.bytesW) | (with_reducible exact Upd.here) | (with_reducible exact Upd.hereR) | (with_reducible apply Upd.there) | (with_reducible apply Sz.alloc) | (with_reducible apply Sz.set) | (with_reducible apply Sz.drew) | (with_reducible apply Sz.drewN) | (with_reducible apply Sz.bytesW) | (with_reducible assumption) | (with_reducible exact Sz.base _))) h5; (try simp only [List.set_cons_zero, List.set_cons_succ, List.cons_append, List.nil_append] at H); clear h5 F
            have F := H.facts; simp only [Facts, NeF, box, row, reg, cellsF, rStr, rByte, ne_eq, true_and, and_true, Nat.reduceAdd, Nat.zero_add] at F
            clear hgr
            rcases hgc with rfl | rfl | rfl
            all_goals
              go_wp2_with fail
              go_roundw
              case rel => exact ⟨_, HK1.out.1, by go_num, Lib.hid (by refine Hp.sel (by repeat (first | (with_reducible exact H) | (with_reducible apply Hp.alloc) | (with_reducible apply Hp.set) | (with_reducible apply Hp.drew) | (with_reducible apply Hp.drewN) | (with_reducible apply Hp.bytesW) | (with_reducible exact Upd.here) | (with_reducible exact Upd.hereR) | (with_reducible apply Upd.there) | (with_reducible apply Sz.alloc) | (with_reducible apply Sz.set) | (with_reducible apply Sz.drew) | (with_reducible apply Sz.drewN) | (with_reducible apply Sz.bytesW) | (with_reducible assumption) | (with_reducible exact Sz.base _))) ?_; (try simp only [List.set_cons_zero, List.set_cons_succ]); exact (by repeat (first | (with_reducible exact Sel.nil) | (with_reducible apply Sel.cons) | (with_reducible exact Del.here) | (with_reducible apply Del.there))))⟩
              case measure => have := HK1.out.2; simp [intOf]; omega
          · have hp0d : p.toList.isEmpty = false := by rw [← Bool.not_eq_true, List.isEmpty_iff]; exact fun h => hp0 (nil_size.1 h)
            have hpx : (p ++ ⟨#[47]⟩) ++ x = e.path := by rw [hxr]; exact (rest_data hre hp0).2
            rw [← hpx] at hgr
            clear hpx hxr hgl
            go_wp2_with fail
            have H8 := Lib.hid H
            refine (getKvL_at A1 us.length c1 us _ 0 gd gc gn _ hgr (stoE_rd H (A := A1) (c := c1) (n := us.length) (es := us) (by repeat (first | (with_reducible exact List.mem_cons_self) | (with_reducible apply List.mem_cons_of_mem)))).1 rfl HF0.out.1 (stoE_rd H (A := A1) (c := c1) (n := us.length) (es := us) (by repeat (first | (with_reducible exact List.mem_cons_self) | (with_reducible apply List.mem_cons_of_mem)))).2 (hml.on H.b)).mono ?_
            rintro e2 w5 ⟨Ga, ga, rfl, h5⟩
            clear H8
            replace H := Hp.call (by repeat (first | (with_reducible exact H) | (with_reducible apply Hp.alloc) | (with_reducible apply Hp.set) | (with_reducible apply Hp.drew) | (with_reducible apply Hp.drewN) | (with_reducible apply Hp.bytesW) | (with_reducible exact Upd.here) | (with_reducible exact Upd.hereR) | (with_reducible apply Upd.there) | (with_reducible apply Sz.alloc) | (with_reducible apply Sz.set) | (with_reducible apply Sz.drew) | (with_reducible apply Sz.drewN) | (with_reducible apply Sz.bytesW) | (with_reducible assumption) | (with_reducible exact Sz.base _))) h5; (try simp only [List.set_cons_zero, List.set_cons_succ, List.cons_append, List.nil_append] at H); clear h5 F
            have F := H.facts; simp only [Facts, NeF, box, row, reg, cellsF, rStr, rByte, ne_eq, true_and, and_true, Nat.reduceAdd, Nat.zero_add] at F
            clear hgr
            rcases hgc with rfl | rfl | rfl
            all_goals
              go_wp2_with fail
              go_roundw
              case rel => exact ⟨_, HK1.out.1, by go_num, Lib.hid (by refine Hp.sel (by repeat (first | (with_reducible exact H) | (with_reducible apply Hp.alloc) | (with_reducible apply Hp.set) | (with_reducible apply Hp.drew) | (with_reducible apply Hp.drewN) | (with_reducible apply Hp.bytesW) | (with_reducible exact Upd.here) | (with_reducible exact Upd.hereR) | (with_reducible apply Upd.there) | (with_reducible apply Sz.alloc) | (with_reducible apply Sz.set) | (with_reducible apply Sz.drew) | (with_reducible apply Sz.drewN) | (with_reducible apply Sz.bytesW) | (with_reducible assumption) | (with_reducible exact Sz.base _))) ?_; (try simp only [List.set_cons_zero, List.set_cons_succ]); exact (by repeat (first | (with_reducible exact Sel.nil) | (with_reducible apply Sel.cons) | (with_reducible exact Del.here) | (with_reducible apply Del.there))))⟩
              case measure => have := HK1.out.2; simp [intOf]; omega
      · obtain ⟨j, rfl⟩ : ∃ j, k = j + 1 := ⟨k - 1, by omega⟩
        have hlt2 : ltS (ls[j]'(by omega)) (ls[j + 1]'hlt) = true := by
          have h9 : listS us p = ls := HA.out.2.2
          have h10 := hup j (j + 1) (by simp [dl, h9]; omega) (by simp [dl, h9]; omega) (by omega)
          rw [ltS_d]
          simpa [dl, h9] using h10
        have HC8 : Hid (∀ (W : World), Hp w W [rStr (some ⟨g5, 0, none⟩) lc ls, stoE A1 c1 us.length us, box w1.heap.size 26 [.slice A1 us.length c1]] → W.cell? ⟨g5, j, none⟩ = some (.string (ls[j]'(by omega)))) := fun W HW => hcell W HW j (by omega)
        have hb0 : (0 : Int) < ((j : Int) + 1) := by omega
        have hb1 : decide ((0 : Int) < ((j : Int) + 1)) = true := decide_eq_true (by omega)
        have hj0 : (0 : Int) ≤ (j : Int) := by omega
        have hjl : (j : Int) < (ls.length : Int) := by omega
        have hjl1 : (j : Int) + 1 < (ls.length : Int) := by omega
        have hj01 : (0 : Int) ≤ (j : Int) + 1 := by omega
        have hwj : IntKind.i64.wrap (j : Int) = (j : Int) := by rw [IntKind.wrap_i64]; omega
        have hlt3 := ltS_asymm hlt2
        have hlt4 : eqB (ls[j]'(by omega)) (ls[j + 1]'hlt) = false := by
          rw [← Bool.not_eq_true, eqB_iff]; exact ltS_ne hlt2
        unfold ltS at hlt2 hlt3
        unfold eqB at hlt4
        clear hcell hup hk9
        generalize (ls[j + 1]'hlt) = x at *
        generalize (ls[j]'(by omega)) = y at *
        go_wp2_with fail
        (refine wp_region_quiet (C := fun W => Hp w W [rStr (some ⟨g5, 0, none⟩) lc ls, stoE A1 c1 us.length us, box w1.heap.size 26 [.slice A1 us.length c1]]) (by kernel_rfl) (by kernel_rfl) (by show Hp _ (World.drew _) _; exact (by repeat (first | (with_reducible exact H) | (with_reducible apply Hp.alloc) | (with_reducible apply Hp.set) | (with_reducible apply Hp.drew) | (with_reducible apply Hp.drewN) | (with_reducible apply Hp.bytesW) | (with_reducible exact Upd.here) | (with_reducible exact Upd.hereR) | (with_reducible apply Upd.there) | (with_reducible apply Sz.alloc) | (with_reducible apply Sz.set) | (with_reducible apply Sz.drew) | (with_reducible apply Sz.drewN) | (with_reducible apply Sz.bytesW) | (with_reducible assumption) | (with_reducible exact Sz.base _)))) ?_; (repeat (first | go_big_quiet_skip | (refine BigFrame.wpQuiet_want (by rfl) (fun K hK => ?_); unfold Oper.quiet; apply Exists.intro; refine ⟨fun W hW => ?_, hK _ ?_⟩; (focus (have G := hW.facts; simp only [Facts, NeF, box, row, reg, cellsF, rStr, rByte, ne_eq, true_and, and_true, Nat.reduceAdd, Nat.zero_add] at G; have q9 := HCK.out _ hW; have q8 := HC8.out _ hW; go_simp; first | rfl | fail)); clear hK K; simp only [Act.put, List.setIfInBounds_toArray, List.set_cons_zero, List.set_cons_succ]))); refine wpQuiet_nil ?_; intro wq H; have F := H.facts; simp only [Facts, NeF, box, row, reg, cellsF, rStr, rByte, ne_eq, true_and, and_true, Nat.reduceAdd, Nat.zero_add] at F)
        clear hb0 hb1 hlt2 hlt3 hlt4 HC8
        have c9 := HCK.out _ H
        go_wp2_with fail
        obtain ⟨m, hxm⟩ : ∃ m, x.size = m + 1 := ⟨x.size - 1, by omega⟩
        have hm0 : (0 : Int) ≤ (m : Int) := by omega
        have hm2 : (m : Int) < (m : Int) + 1 := by omega
        have hwm : IntKind.i64.wrap (m : Int) = (m : Int) := by rw [IntKind.wrap_i64]; omega
        cases hc : (((x[m]'(by omega)).toNat : Int) == (47 : Int)) with
        | true =>
          (refine wp_region_quiet (C := fun W => Hp w W [rStr (some ⟨g5, 0, none⟩) lc ls, stoE A1 c1 us.length us, box w1.heap.size 26 [.slice A1 us.length c1]]) (by kernel_rfl) (by kernel_rfl) (by show Hp _ (World.drew _) _; exact (by repeat (first | (with_reducible exact H) | (with_reducible apply Hp.alloc) | (with_reducible apply Hp.set) | (with_reducible apply Hp.drew) | (with_reducible apply Hp.drewN) | (with_reducible apply Hp.bytesW) | (with_reducible exact Upd.here) | (with_reducible exact Upd.hereR) | (with_reducible apply Upd.there) | (with_reducible apply Sz.alloc) | (with_reducible apply Sz.set) | (with_reducible apply Sz.drew) | (with_reducible apply Sz.drewN) | (with_reducible apply Sz.bytesW) | (with_reducible assumption) | (with_reducible exact Sz.base _)))) ?_; (repeat (first | go_big_quiet_skip | (refine BigFrame.wpQuiet_want (by rfl) (fun K hK => ?_); unfold Oper.quiet; apply Exists.intro; refine ⟨fun W hW => ?_, hK _ ?_⟩; (focus (have G := hW.facts; simp only [Facts, NeF, box, row, reg, cellsF, rStr, rByte, ne_eq, true_and, and_true, Nat.reduceAdd, Nat.zero_add] at G; have q9 := HCK.out _ hW; go_simp; first | rfl | fail)); clear hK K; simp only [Act.put, List.setIfInBounds_toArray, List.set_cons_zero, List.set_cons_succ]))); refine wpQuiet_nil ?_; intro wq H; have F := H.facts; simp only [Facts, NeF, box, row, reg, cellsF, rStr, rByte, ne_eq, true_and, and_true, Nat.reduceAdd, Nat.zero_add] at F)
          go_wp2_with fail
          go_roundw
          case rel => exact ⟨_, HK1.out.1, by go_num, Lib.hid (by refine Hp.sel (by repeat (first | (with_reducible exact H) | (with_reducible apply Hp.alloc) | (with_reducible apply Hp.set) | (with_reducible apply Hp.drew) | (with_reducible apply Hp.drewN) | (with_reducible apply Hp.bytesW) | (with_reducible exact Upd.here) | (with_reducible exact Upd.hereR) | (with_reducible apply Upd.there) | (with_reducible apply Sz.alloc) | (with_reducible apply Sz.set) | (with_reducible apply Sz.drew) | (with_reducible apply Sz.drewN) | (with_reducible apply Sz.bytesW) | (with_reducible assumption) | (with_reducible exact Sz.base _))) ?_; (try simp only [List.set_cons_zero, List.set_cons_succ]); exact (by repeat (first | (with_reducible exact Sel.nil) | (with_reducible apply Sel.cons) | (with_reducible exact Del.here) | (with_reducible apply Del.there))))⟩
          case measure => have := HK1.out.2; simp [intOf]; omega
        | false =>
          (refine wp_region_quiet (C := fun W => Hp w W [rStr (some ⟨g5, 0, none⟩) lc ls, stoE A1 c1 us.length us, box w1.heap.size 26 [.slice A1 us.length c1]]) (by kernel_rfl) (by kernel_rfl) (by show Hp _ (World.drew _) _; exact (by repeat (first | (with_reducible exact H) | (with_reducible apply Hp.alloc) | (with_reducible apply Hp.set) | (with_reducible apply Hp.drew) | (with_reducible apply Hp.drewN) | (with_reducible apply Hp.bytesW) | (with_reducible exact Upd.here) | (with_reducible exact Upd.hereR) | (with_reducible apply Upd.there) | (with_reducible apply Sz.alloc) | (with_reducible apply Sz.set) | (with_reducible apply Sz.drew) | (with_reducible apply Sz.drewN) | (with_reducible apply Sz.bytesW) | (with_reducible assumption) | (with_reducible exact Sz.base _)))) ?_; (repeat (first | go_big_quiet_skip | (refine BigFrame.wpQuiet_want (by rfl) (fun K hK => ?_); unfold Oper.quiet; apply Exists.intro; refine ⟨fun W hW => ?_, hK _ ?_⟩; (focus (have G := hW.facts; simp only [Facts, NeF, box, row, reg, cellsF, rStr, rByte, ne_eq, true_and, and_true, Nat.reduceAdd, Nat.zero_add] at G; have q9 := HCK.out _ hW; go_simp; first | rfl | fail)); clear hK K; simp only [Act.put, List.setIfInBounds_toArray, List.set_cons_zero, List.set_cons_succ]))); refine wpQuiet_nil ?_; intro wq H; have F := H.facts; simp only [Facts, NeF, box, row, reg, cellsF, rStr, rByte, ne_eq, true_and, and_true, Nat.reduceAdd, Nat.zero_add] at F)
          have c9 := HCK.out _ H
          have hgl : x.data.toList.getLast? ≠ some 47 := by
            intro h9
            have h10 : x.data.toList[m]? = some 47 := by
              rw [List.getLast?_eq_getElem?] at h9
              have h11 : x.data.toList.length = m + 1 := by simpa using hxm
              rw [h11, Nat.add_sub_cancel] at h9; exact h9
            have h12 : (x[m]'(by omega)) = 47 := by
              have h13 : x.data.toList[m]? = some (x[m]'(by omega)) := by
                rw [List.getElem?_eq_getElem (by simp; omega)]; rfl
              rw [h13] at h10; injection h10
            rw [h12] at hc; simp at hc
          have hxr : x = r := by rw [← hne]; exact name_whole (by rw [hne]; exact hgl)
          obtain ⟨⟨gd, gc, gn⟩, hgr⟩ : ∃ gr, getF us e.path 0 = gr := ⟨_, rfl⟩
          have hgc := get_has HA.out.1 he
          rw [hgr] at hgc
          have hgc : gc = 0 ∨ gc = 3 ∨ gc = 4 := hgc
          by_cases hp0 : p.size = 0
          · have hp0d : p.toList.isEmpty = true := by rw [List.isEmpty_iff]; exact nil_size.2 hp0
            have hpx : e.path = x := by
              rw [restS, if_pos hp0] at hre
              injection hre with hre
              rw [hxr]; exact hre
            rw [hpx] at hgr
            clear hpx hxr hgl
            go_wp2_with fail
            have H8 := Lib.hid H
            refine (getKvL_at A1 us.length c1 us _ 0 gd gc gn _ hgr (stoE_rd H (A := A1) (c := c1) (n := us.length) (es := us) (by repeat (first | (with_reducible exact List.mem_cons_self) | (with_reducible apply List.mem_cons_of_mem)))).1 rfl HF0.out.1 (stoE_rd H (A := A1) (c := c1) (n := us.length) (es := us) (by repeat (first | (with_reducible exact List.mem_cons_self) | (with_reducible apply List.mem_cons_of_mem)))).2 (hml.on H.b)).mono ?_
            rintro e2 w5 ⟨Ga, ga, rfl, h5⟩
            clear H8
            replace H := Hp.call (by repeat (first | (with_reducible exact H) | (with_reducible apply Hp.alloc) | (with_reducible apply Hp.set) | (with_reducible apply Hp.drew) | (with_reducible apply Hp.drewN) | (with_reducible apply Hp.bytesW) | (with_reducible exact Upd.here) | (with_reducible exact Upd.hereR) | (with_reducible apply Upd.there) | (with_reducible apply Sz.alloc) | (with_reducible apply Sz.set) | (with_reducible apply Sz.drew) | (with_reducible apply Sz.drewN) | (with_reducible apply Sz.bytesW) | (with_reducible assumption) | (with_reducible exact Sz.base _))) h5; (try simp only [List.set_cons_zero, List.set_cons_succ, List.cons_append, List.nil_append] at H); clear h5 F
            have F := H.facts; simp only [Facts, NeF, box, row, reg, cellsF, rStr, rByte, ne_eq, true_and, and_true, Nat.reduceAdd, Nat.zero_add] at F
            clear hgr
            rcases hgc with rfl | rfl | rfl
            all_goals
              go_wp2_with fail
              go_roundw
              case rel => exact ⟨_, HK1.out.1, by go_num, Lib.hid (by refine Hp.sel (by repeat (first | (with_reducible exact H) | (with_reducible apply Hp.alloc) | (with_reducible apply Hp.set) | (with_reducible apply Hp.drew) | (with_reducible apply Hp.drewN) | (with_reducible apply Hp.bytesW) | (with_reducible exact Upd.here) | (with_reducible exact Upd.hereR) | (with_reducible apply Upd.there) | (with_reducible apply Sz.alloc) | (with_reducible apply Sz.set) | (with_reducible apply Sz.drew) | (with_reducible apply Sz.drewN) | (with_reducible apply Sz.bytesW) | (with_reducible assumption) | (with_reducible exact Sz.base _))) ?_; (try simp only [List.set_cons_zero, List.set_cons_succ]); exact (by repeat (first | (with_reducible exact Sel.nil) | (with_reducible apply Sel.cons) | (with_reducible exact Del.here) | (with_reducible apply Del.there))))⟩
              case measure => have := HK1.out.2; simp [intOf]; omega
          · have hp0d : p.toList.isEmpty = false := by rw [← Bool.not_eq_true, List.isEmpty_iff]; exact fun h => hp0 (nil_size.1 h)
            have hpx : (p ++ ⟨#[47]⟩) ++ x = e.path := by rw [hxr]; exact (rest_data hre hp0).2
            rw [← hpx] at hgr
            clear hpx hxr hgl
            go_wp2_with fail
            have H8 := Lib.hid H
            refine (getKvL_at A1 us.length c1 us _ 0 gd gc gn _ hgr (stoE_rd H (A := A1) (c := c1) (n := us.length) (es := us) (by repeat (first | (with_reducible exact List.mem_cons_self) | (with_reducible apply List.mem_cons_of_mem)))).1 rfl HF0.out.1 (stoE_rd H (A := A1) (c := c1) (n := us.length) (es := us) (by repeat (first | (with_reducible exact List.mem_cons_self) | (with_reducible apply List.mem_cons_of_mem)))).2 (hml.on H.b)).mono ?_
            rintro e2 w5 ⟨Ga, ga, rfl, h5⟩
            clear H8
            replace H := Hp.call (by repeat (first | (with_reducible exact H) | (with_reducible apply Hp.alloc) | (with_reducible apply Hp.set) | (with_reducible apply Hp.drew) | (with_reducible apply Hp.drewN) | (with_reducible apply Hp.bytesW) | (with_reducible exact Upd.here) | (with_reducible exact Upd.hereR) | (with_reducible apply Upd.there) | (with_reducible apply Sz.alloc) | (with_reducible apply Sz.set) | (with_reducible apply Sz.drew) | (with_reducible apply Sz.drewN) | (with_reducible apply Sz.bytesW) | (with_reducible assumption) | (with_reducible exact Sz.base _))) h5; (try simp only [List.set_cons_zero, List.set_cons_succ, List.cons_append, List.nil_append] at H); clear h5 F
            have F := H.facts; simp only [Facts, NeF, box, row, reg, cellsF, rStr, rByte, ne_eq, true_and, and_true, Nat.reduceAdd, Nat.zero_add] at F
            clear hgr
            rcases hgc with rfl | rfl | rfl
            all_goals
              go_wp2_with fail
              go_roundw
              case rel => exact ⟨_, HK1.out.1, by go_num, Lib.hid (by refine Hp.sel (by repeat (first | (with_reducible exact H) | (with_reducible apply Hp.alloc) | (with_reducible apply Hp.set) | (with_reducible apply Hp.drew) | (with_reducible apply Hp.drewN) | (with_reducible apply Hp.bytesW) | (with_reducible exact Upd.here) | (with_reducible exact Upd.hereR) | (with_reducible apply Upd.there) | (with_reducible apply Sz.alloc) | (with_reducible apply Sz.set) | (with_reducible apply Sz.drew) | (with_reducible apply Sz.drewN) | (with_reducible apply Sz.bytesW) | (with_reducible assumption) | (with_reducible exact Sz.base _))) ?_; (try simp only [List.set_cons_zero, List.set_cons_succ]); exact (by repeat (first | (with_reducible exact Sel.nil) | (with_reducible apply Sel.cons) | (with_reducible exact Del.here) | (with_reducible apply Del.there))))⟩
              case measure => have := HK1.out.2; simp [intOf]; omega
    · have hk1 : ¬ (k : Int) < (ls.length : Int) := by omega
      go_wp2_with fail
      go_ret
      exact ⟨rfl, Hp.b (by repeat (first | (with_reducible exact H) | (with_reducible apply Hp.alloc) | (with_reducible apply Hp.set) | (with_reducible apply Hp.drew) | (with_reducible apply Hp.drewN) | (with_reducible apply Hp.bytesW) | (with_reducible exact Upd.here) | (with_reducible exact Upd.hereR) | (with_reducible apply Upd.there) | (with_reducible apply Sz.alloc) | (with_reducible apply Sz.set) | (with_reducible apply Sz.drew) | (with_reducible apply Sz.drewN) | (with_reducible apply Sz.bytesW) | (with_reducible assumption) | (with_reducible exact Sz.base _)))⟩
end Go.Proofs.YtklmcbabpncfmaaDoor

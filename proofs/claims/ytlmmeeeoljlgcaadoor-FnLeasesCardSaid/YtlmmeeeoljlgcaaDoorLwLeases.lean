/- FnLeases: the walk. No condition. -/
import Derived.Test.YtlmmeeeoljlgcaaDoorDrawJ
import Derived.Test.YtlmmeeeoljlgcaaDoorAddA
import Derived.Test.YtlmmeeeoljlgcaaDoorAddB
import Derived.Test.YtlmmeeeoljlgcaaDoorFindB
import Derived.Test.YtlmmeeeoljlgcaaDoorCountA
import Derived.Test.YtlmmeeeoljlgcaaDoorCountB
import Derived.Test.YtlmmeeeoljlgcaaDoorNextB
import Derived.Test.YtlmmeeeoljlgcaaDoorHasL
import Derived.Test.YtlmmeeeoljlgcaaDoorLeasesP
import Derived.Test.YtlmmeeeoljlgcaaDoorLeaseG
import Derived.Deep.DeepCutAuto
set_option linter.unusedVariables false
set_option linter.unusedSimpArgs false
namespace Go.Proofs.YtlmmeeeoljlgcaaDoor
open Go.RowKit
set_option linter.unusedVariables false
set_option linter.unusedSimpArgs false
theorem bigL_any (A : Option Addr) (n c : Nat) (w : World) (hm : n ≤ maxLen) :
    Calls Tryd.prog 15 #[.slice A n c] w fun e w' => e = .returned (.bool (decide (1048576 < n))) ∧ w = w' := by
  unfold maxLen at hm
  by_cases h : 1048576 < n
  · go_enter Tryd.func15, Tryd.ntmps15
    go_wp2
    go_ret
    exact ⟨by simp; omega, rfl⟩
  · go_enter Tryd.func15, Tryd.ntmps15
    go_wp2
    go_ret
    exact ⟨by simp; omega, rfl⟩
theorem rlAtL {w0 W : World} {M : List Ent} {g c : Nat} {xs : List Lease} {k : Nat} (h : Hp w0 W M) (hm : rLease (some ⟨g, 0, none⟩) c xs ∈ M) (hk : k < xs.length) :
    W.cell? ⟨g, k * 6, none⟩ = some (.int .i64 xs[k].id) ∧ W.cell? ⟨g, k * 6 + 1, none⟩ = some (.int .i64 xs[k].token) ∧ W.cell? ⟨g, k * 6 + 2, none⟩ = some (.string xs[k].path) ∧ W.cell? ⟨g, k * 6 + 3, none⟩ = some (.int .i64 xs[k].made) ∧ W.cell? ⟨g, k * 6 + 4, none⟩ = some (.int .i64 xs[k].ends) ∧ W.cell? ⟨g, k * 6 + 5, none⟩ = some (.int .i64 xs[k].limit) :=
  lsAt (n := xs.length) h (show rLs (some ⟨g, 0, none⟩) xs.length c xs ∈ M from hm) rfl hk
set_option maxHeartbeats 32000000 in
set_option maxRecDepth 10000 in
theorem lawLeases (A : Option Addr) (n c : Nat) (bs : List UInt8) (w : World) (hr : Rd w w.heap.size 1 A n c (bs.flatMap encByte)) (hn : bs.length = n) (hml : mlOk w) :
    Calls Tryd.prog 4 #[.slice A n c] w fun e w' => e = .returned (.bool true) ∧ Below w.heap.size w w' := by
  have H := Hp.nil w
  have hnm : n ≤ maxLen := Nat.le_trans hr.2.1 hr.2.2.1
  by_cases hbig : 1048576 < n
  · go_enter Tryd.func4, Tryd.ntmps4
    go_wp2_with fail
    refine (bigL_any A n c _ hnm).mono ?_
    rintro e w0 ⟨rfl, rfl⟩
    rw [decide_eq_true hbig]
    go_wp2_with fail
    go_ret
    exact ⟨rfl, Hp.b (by repeat (first | (with_reducible exact H) | (with_reducible apply Hp.alloc) | (with_reducible apply Hp.set) | (with_reducible apply Hp.drew) | (with_reducible apply Hp.drewN) | (with_reducible apply Hp.bytesW) | (with_reducible exact Upd.here) | (with_reducible exact Upd.hereR) | (with_reducible apply Upd.there) | (with_reducible apply Sz.alloc) | (with_reducible apply Sz.set) | (with_reducible apply Sz.drew) | (with_reducible apply Sz.drewN) | (with_reducible apply Sz.bytesW) | (with_reducible assumption) | (with_reducible exact Sz.base _)))⟩
  go_enter Tryd.func4, Tryd.ntmps4
  go_wp2_with fail
  refine (bigL_any A n c _ hnm).mono ?_
  rintro e w0 ⟨rfl, rfl⟩
  rw [decide_eq_false hbig]
  clear hbig
  have F : True := trivial
  go_wp2_with fail
  refine call_atK (w0 := w) (by repeat (first | (with_reducible exact H) | (with_reducible apply Hp.alloc) | (with_reducible apply Hp.set) | (with_reducible apply Hp.drew) | (with_reducible apply Hp.drewN) | (with_reducible apply Hp.bytesW) | (with_reducible exact Upd.here) | (with_reducible exact Upd.hereR) | (with_reducible apply Upd.there) | (with_reducible apply Sz.alloc) | (with_reducible apply Sz.set) | (with_reducible apply Sz.drew) | (with_reducible apply Sz.drewN) | (with_reducible apply Sz.bytesW) | (with_reducible assumption) | (with_reducible exact Sz.base _))) fun H7 => ?_
  (try simp only [List.set_cons_zero, List.set_cons_succ, List.cons_append, List.nil_append] at H7)
  refine (DrawAddLease_hp A n c bs _ (hr.grow H7.b) hn).mono ?_
  rintro e w1 ⟨A1, d1, us, l, rfl, hul, hU, hlB, h1⟩
  clear H F
  have H := Hp.call H7 h1
  (try simp only [List.set_cons_zero, List.set_cons_succ, List.cons_append, List.nil_append] at H)
  have F := H.facts; simp only [Facts, NeF, box, row, reg, cellsF, rLease, ne_eq, true_and, and_true, Nat.reduceAdd, Nat.zero_add] at F
  clear H7 h1
  have HSZ : Hid (∀ u ∈ us, LeaseFits u) := fun u hu => (hU u hu).fits
  have hlf : LeaseFits l := hlB.fits
  have hlp : l.path.size ≤ maxLen := hlf
  clear hU hlB
  obtain ⟨⟨rs, rb⟩, hadd⟩ : ∃ r, addU us l = r := ⟨_, rfl⟩
  have HADD := Lib.hid hadd; clear hadd
  go_wp2_with fail
  refine call_atK (w0 := w) (by repeat (first | (with_reducible exact H) | (with_reducible apply Hp.alloc) | (with_reducible apply Hp.set) | (with_reducible apply Hp.drew) | (with_reducible apply Hp.drewN) | (with_reducible apply Hp.bytesW) | (with_reducible exact Upd.here) | (with_reducible exact Upd.hereR) | (with_reducible apply Upd.there) | (with_reducible apply Sz.alloc) | (with_reducible apply Sz.set) | (with_reducible apply Sz.drew) | (with_reducible apply Sz.drewN) | (with_reducible apply Sz.bytesW) | (with_reducible assumption) | (with_reducible exact Sz.base _))) fun H7 => ?_
  (try simp only [List.set_cons_zero, List.set_cons_succ, List.cons_append, List.nil_append] at H7)
  refine (specAddLease_hp A1 us.length d1 us l rs rb _ HADD.out (Hp.rdM H7 (show rLease A1 d1 us ∈ _ from (by repeat (first | (with_reducible exact List.mem_cons_self) | (with_reducible apply List.mem_cons_of_mem))))) rfl (by omega) HSZ.out hlf).mono ?_
  rintro e w2 ⟨A2, d2, rfl, h2⟩
  clear H F
  have H := Hp.call H7 h2
  (try simp only [List.set_cons_zero, List.set_cons_succ, List.cons_append, List.nil_append] at H)
  have F := H.facts; simp only [Facts, NeF, box, row, reg, cellsF, rLease, ne_eq, true_and, and_true, Nat.reduceAdd, Nat.zero_add] at F
  clear H7 h2
  cases rb with
  | false =>
    go_wp2_with fail
    go_ret
    exact ⟨rfl, Hp.b (by repeat (first | (with_reducible exact H) | (with_reducible apply Hp.alloc) | (with_reducible apply Hp.set) | (with_reducible apply Hp.drew) | (with_reducible apply Hp.drewN) | (with_reducible apply Hp.bytesW) | (with_reducible exact Upd.here) | (with_reducible exact Upd.hereR) | (with_reducible apply Upd.there) | (with_reducible apply Sz.alloc) | (with_reducible apply Sz.set) | (with_reducible apply Sz.drew) | (with_reducible apply Sz.drewN) | (with_reducible apply Sz.bytesW) | (with_reducible assumption) | (with_reducible exact Sz.base _)))⟩
  | true =>
  obtain ⟨hb0, hb1, hrs⟩ := add_yes HADD.out
  have hol := over_last hb1
  have hfl := of_last hb1
  have hnl := under_last hb1
  have hcl := count_last hb0 hb1
  have hfi := found_last hb1
  have hrf : ∀ u ∈ us ++ [l], LeaseFits u := fun u hu => by
    rcases List.mem_append.1 hu with h | h
    · exact HSZ.out u h
    · rw [List.mem_singleton.1 h]; exact hlf
  rw [← hrs] at hol hfl hnl hcl hfi hrf
  have hrl : rs.length ≤ 152 := by rw [hrs]; simp; omega
  clear hrs hb0 hb1
  obtain ⟨lv, hlv⟩ : ∃ x, leftL (overP l.ends) rs = x := ⟨_, rfl⟩
  obtain ⟨gv, hgv⟩ : ∃ x, goneO l.ends rs = x := ⟨_, rfl⟩
  obtain ⟨lo, hlo⟩ : ∃ x, leftL (isOf [l.token]) rs = x := ⟨_, rfl⟩
  obtain ⟨go, hgo⟩ : ∃ x, goneL (isOf [l.token]) rs = x := ⟨_, rfl⟩
  obtain ⟨lu, hlu⟩ : ∃ x, leftL (isUnder l.path) rs = x := ⟨_, rfl⟩
  obtain ⟨gu, hgu⟩ : ∃ x, goneL (isUnder l.path) rs = x := ⟨_, rfl⟩
  obtain ⟨cn, hcn⟩ : ∃ x, cntU us l.path = x := ⟨_, rfl⟩
  rw [hlv, hgv] at hol
  rw [hlo, hgo] at hfl
  rw [hlu, hgu] at hnl
  rw [hcn] at hcl
  obtain ⟨ho1, ho2, ho3, ho4, ho5, ho6⟩ := hol
  obtain ⟨hf1, hf2, hf3⟩ := hfl
  obtain ⟨hn1, hn2⟩ := hnl
  obtain ⟨hc1, hc2, hc3⟩ := hcl
  have hlvl : lv.length ≤ 152 := by omega
  have hgvl : gv.length ≤ 152 := by omega
  have hgol : go.length ≤ 152 := by rw [← hgo]; exact Nat.le_trans (goneL_len _ _) hrl
  have hwl : IntKind.i64.wrap ((lv.length : Int) + (gv.length : Int)) = (rs.length : Int) := by rw [IntKind.wrap_i64]; omega
  have hwc : IntKind.i64.wrap (cn + 1) = cn + 1 := by rw [IntKind.wrap_i64]; omega
  have HO1 := Lib.hid ho1
  have HO3 := Lib.hid ho3
  have HO4 := Lib.hid ho4
  have HO5 := Lib.hid ho5
  have HO6 := Lib.hid ho6
  have HF1 := Lib.hid hf1
  have HF2 := Lib.hid hf2
  have HF3 := Lib.hid hf3
  have HN1 := Lib.hid hn1
  have HN2 := Lib.hid hn2
  have HC1 := Lib.hid hc1
  have HC2 := Lib.hid hcn
  have HFI := Lib.hid hfi
  have HRF := Lib.hid hrf
  clear ho1 ho2 ho3 ho4 ho5 ho6 hf1 hf2 hf3 hn1 hn2 hc1 hc2 hc3 hcn hfi hrf hlv hgv hlo hgo hlu hgu
  go_wp2_with fail
  refine call_atK (w0 := w) (by repeat (first | (with_reducible exact H) | (with_reducible apply Hp.alloc) | (with_reducible apply Hp.set) | (with_reducible apply Hp.drew) | (with_reducible apply Hp.drewN) | (with_reducible apply Hp.bytesW) | (with_reducible exact Upd.here) | (with_reducible exact Upd.hereR) | (with_reducible apply Upd.there) | (with_reducible apply Sz.alloc) | (with_reducible apply Sz.set) | (with_reducible apply Sz.drew) | (with_reducible apply Sz.drewN) | (with_reducible apply Sz.bytesW) | (with_reducible assumption) | (with_reducible exact Sz.base _))) fun H7 => ?_
  (try simp only [List.set_cons_zero, List.set_cons_succ, List.cons_append, List.nil_append] at H7)
  refine (implAddLease_hp A1 us.length d1 us l rs true _ HADD.out (Hp.rdM H7 (show rLease A1 d1 us ∈ _ from (by repeat (first | (with_reducible exact List.mem_cons_self) | (with_reducible apply List.mem_cons_of_mem))))) rfl (by omega) HSZ.out hlf (hml.on H7.b)).mono ?_
  rintro e w3 ⟨A3, d3, rfl, h3⟩
  clear H F
  have H := Hp.call H7 h3
  (try simp only [List.set_cons_zero, List.set_cons_succ, List.cons_append, List.nil_append] at H)
  replace H : Hp w _ [rLease A3 d3 rs, box (w1.heap.size + 1) 40 [.int .i64 l.id, .int .i64 l.token, .string l.path, .int .i64 l.made, .int .i64 l.ends, .int .i64 l.limit], box w1.heap.size 28 [.slice A1 us.length d1], rLease A1 d1 us] := (by refine Hp.sel (by repeat (first | (with_reducible exact H) | (with_reducible apply Hp.alloc) | (with_reducible apply Hp.set) | (with_reducible apply Hp.drew) | (with_reducible apply Hp.drewN) | (with_reducible apply Hp.bytesW) | (with_reducible exact Upd.here) | (with_reducible exact Upd.hereR) | (with_reducible apply Upd.there) | (with_reducible apply Sz.alloc) | (with_reducible apply Sz.set) | (with_reducible apply Sz.drew) | (with_reducible apply Sz.drewN) | (with_reducible apply Sz.bytesW) | (with_reducible assumption) | (with_reducible exact Sz.base _))) ?_; (try simp only [List.set_cons_zero, List.set_cons_succ]); exact (by repeat (first | (with_reducible exact Sel.nil) | (with_reducible apply Sel.cons) | (with_reducible exact Del.here) | (with_reducible apply Del.there))))
  have F := H.facts; simp only [Facts, NeF, box, row, reg, cellsF, rLease, ne_eq, true_and, and_true, Nat.reduceAdd, Nat.zero_add] at F
  clear H7 h3
  go_wp2_with fail
  refine call_atK (w0 := w) (by repeat (first | (with_reducible exact H) | (with_reducible apply Hp.alloc) | (with_reducible apply Hp.set) | (with_reducible apply Hp.drew) | (with_reducible apply Hp.drewN) | (with_reducible apply Hp.bytesW) | (with_reducible exact Upd.here) | (with_reducible exact Upd.hereR) | (with_reducible apply Upd.there) | (with_reducible apply Sz.alloc) | (with_reducible apply Sz.set) | (with_reducible apply Sz.drew) | (with_reducible apply Sz.drewN) | (with_reducible apply Sz.bytesW) | (with_reducible assumption) | (with_reducible exact Sz.base _))) fun H7 => ?_
  (try simp only [List.set_cons_zero, List.set_cons_succ, List.cons_append, List.nil_append] at H7)
  refine (implFindLease_any A3 rs.length d3 rs l.id l true _ HFI.out (Hp.rdM H7 (show rLease A3 d3 rs ∈ _ from (by repeat (first | (with_reducible exact List.mem_cons_self) | (with_reducible apply List.mem_cons_of_mem))))) rfl HRF.out (hml.on H7.b)).mono ?_
  rintro e w4 ⟨rfl, q4⟩
  clear H F
  have H := H7.step q4
  (try simp only [List.set_cons_zero, List.set_cons_succ, List.cons_append, List.nil_append] at H)
  have F := H.facts; simp only [Facts, NeF, box, row, reg, cellsF, rLease, ne_eq, true_and, and_true, Nat.reduceAdd, Nat.zero_add] at F
  clear H7 q4
  go_upto_region 9 with fail
  (refine wp_region_quiet (C := fun W => Hp w W [box w4.heap.size 40 [.int .i64 l.id, .int .i64 l.token, .string l.path, .int .i64 l.made, .int .i64 l.ends, .int .i64 l.limit], box w3.heap.size 28 [.slice A3 rs.length d3], rLease A3 d3 rs, box (w1.heap.size + 1) 40 [.int .i64 l.id, .int .i64 l.token, .string l.path, .int .i64 l.made, .int .i64 l.ends, .int .i64 l.limit], box w1.heap.size 28 [.slice A1 us.length d1], rLease A1 d1 us]) (by kernel_rfl) (by kernel_rfl) (by show Hp _ (World.drew _) _; exact (by repeat (first | (with_reducible exact H) | (with_reducible apply Hp.alloc) | (with_reducible apply Hp.set) | (with_reducible apply Hp.drew) | (with_reducible apply Hp.drewN) | (with_reducible apply Hp.bytesW) | (with_reducible exact Upd.here) | (with_reducible exact Upd.hereR) | (with_reducible apply Upd.there) | (with_reducible apply Sz.alloc) | (with_reducible apply Sz.set) | (with_reducible apply Sz.drew) | (with_reducible apply Sz.drewN) | (with_reducible apply Sz.bytesW) | (with_reducible assumption) | (with_reducible exact Sz.base _)))) ?_; (repeat (first | go_big_quiet_skip | (refine BigFrame.wpQuiet_want (by rfl) (fun K hK => ?_); unfold Oper.quiet; apply Exists.intro; refine ⟨fun W hW => ?_, hK _ ?_⟩; (focus (have G := hW.facts; simp only [Facts, NeF, box, row, reg, cellsF, rLease, ne_eq, true_and, and_true, Nat.reduceAdd, Nat.zero_add] at G; skip; go_simp; first | rfl | (go_at_call 20; refine (implCountUnder_any A3 rs.length d3 rs l.path _ (Hp.rdM hW (show rLease A3 d3 rs ∈ _ from (by repeat (first | (with_reducible exact List.mem_cons_self) | (with_reducible apply List.mem_cons_of_mem))))) rfl (by omega) HRF.out hlp (hml.on hW.b)).mono ?_; rintro e w' ⟨rfl, hb⟩; rw [HC1.out]; exact ⟨rfl, hW.step hb⟩) | (go_at_call 21; refine (specCountUnder_any A1 us.length d1 us l.path _ (Hp.rdM hW (show rLease A1 d1 us ∈ _ from (by repeat (first | (with_reducible exact List.mem_cons_self) | (with_reducible apply List.mem_cons_of_mem))))) rfl (by omega) HSZ.out hlp).mono ?_; rintro e w' ⟨rfl, hb⟩; rw [HC2.out]; exact ⟨rfl, hW.step hb⟩))); clear hK K; simp only [Act.put, List.setIfInBounds_toArray, List.set_cons_zero, List.set_cons_succ]))); refine wpQuiet_nil ?_; intro wq H; have F := H.facts; simp only [Facts, NeF, box, row, reg, cellsF, rLease, ne_eq, true_and, and_true, Nat.reduceAdd, Nat.zero_add] at F)
  have H0 : Hp w wq [box w3.heap.size 28 [.slice A3 rs.length d3], rLease A3 d3 rs, box (w1.heap.size + 1) 40 [.int .i64 l.id, .int .i64 l.token, .string l.path, .int .i64 l.made, .int .i64 l.ends, .int .i64 l.limit]] := (by refine Hp.sel (by repeat (first | (with_reducible exact H) | (with_reducible apply Hp.alloc) | (with_reducible apply Hp.set) | (with_reducible apply Hp.drew) | (with_reducible apply Hp.drewN) | (with_reducible apply Hp.bytesW) | (with_reducible exact Upd.here) | (with_reducible exact Upd.hereR) | (with_reducible apply Upd.there) | (with_reducible apply Sz.alloc) | (with_reducible apply Sz.set) | (with_reducible apply Sz.drew) | (with_reducible apply Sz.drewN) | (with_reducible apply Sz.bytesW) | (with_reducible assumption) | (with_reducible exact Sz.base _))) ?_; (try simp only [List.set_cons_zero, List.set_cons_succ]); exact (by repeat (first | (with_reducible exact Sel.nil) | (with_reducible apply Sel.cons) | (with_reducible exact Del.here) | (with_reducible apply Del.there))))
  clear H F
  have H := H0; clear H0
  have F := H.facts; simp only [Facts, NeF, box, row, reg, cellsF, rLease, ne_eq, true_and, and_true, Nat.reduceAdd, Nat.zero_add] at F
  go_wp2_with fail
  refine call_atK (w0 := w) (by repeat (first | (with_reducible exact H) | (with_reducible apply Hp.alloc) | (with_reducible apply Hp.set) | (with_reducible apply Hp.drew) | (with_reducible apply Hp.drewN) | (with_reducible apply Hp.bytesW) | (with_reducible exact Upd.here) | (with_reducible exact Upd.hereR) | (with_reducible apply Upd.there) | (with_reducible apply Sz.alloc) | (with_reducible apply Sz.set) | (with_reducible apply Sz.drew) | (with_reducible apply Sz.drewN) | (with_reducible apply Sz.bytesW) | (with_reducible assumption) | (with_reducible exact Sz.base _))) fun H7 => ?_
  (try simp only [List.set_cons_zero, List.set_cons_succ, List.cons_append, List.nil_append] at H7)
  refine (implDropOver_hp A3 rs.length d3 rs l.ends lv gv _ HO1.out (Hp.rdM H7 (show rLease A3 d3 rs ∈ _ from (by repeat (first | (with_reducible exact List.mem_cons_self) | (with_reducible apply List.mem_cons_of_mem))))) rfl (by omega) HRF.out (hml.on H7.b)).mono ?_
  rintro e w5 ⟨A4, d4, A5, d5, rfl, h5⟩
  clear H F
  have H := Hp.call H7 h5
  (try simp only [List.set_cons_zero, List.set_cons_succ, List.cons_append, List.nil_append] at H)
  have F := H.facts; simp only [Facts, NeF, box, row, reg, cellsF, rLease, ne_eq, true_and, and_true, Nat.reduceAdd, Nat.zero_add] at F
  clear H7 h5
  go_wp2_with fail
  refine call_atK (w0 := w) (by repeat (first | (with_reducible exact H) | (with_reducible apply Hp.alloc) | (with_reducible apply Hp.set) | (with_reducible apply Hp.drew) | (with_reducible apply Hp.drewN) | (with_reducible apply Hp.bytesW) | (with_reducible exact Upd.here) | (with_reducible exact Upd.hereR) | (with_reducible apply Upd.there) | (with_reducible apply Sz.alloc) | (with_reducible apply Sz.set) | (with_reducible apply Sz.drew) | (with_reducible apply Sz.drewN) | (with_reducible apply Sz.bytesW) | (with_reducible assumption) | (with_reducible exact Sz.base _))) fun H7 => ?_
  (try simp only [List.set_cons_zero, List.set_cons_succ, List.cons_append, List.nil_append] at H7)
  refine (hasLease_any A5 gv.length d5 gv l _ (Hp.rdM H7 (show rLease A5 d5 gv ∈ _ from (by repeat (first | (with_reducible exact List.mem_cons_self) | (with_reducible apply List.mem_cons_of_mem))))) rfl HO3.out).mono ?_
  rintro e w6 ⟨rfl, q6⟩
  clear H F
  have H := H7.step q6
  (try simp only [List.set_cons_zero, List.set_cons_succ, List.cons_append, List.nil_append] at H)
  have F := H.facts; simp only [Facts, NeF, box, row, reg, cellsF, rLease, ne_eq, true_and, and_true, Nat.reduceAdd, Nat.zero_add] at F
  clear H7 q6
  go_wp2_with fail
  have HH := Lib.hid H; clear H F
  have hgp : 0 < gv.length := List.length_pos_of_mem HO3.out
  go_loopw [13] (fun i wr => ∃ k : Nat, k ≤ gv.length ∧ i = .int .i64 k ∧ Hid (Hp w wr [box w5.heap.size 28 [.slice A4 lv.length d4], rLease A4 d4 lv, rLease A5 d5 gv, box w3.heap.size 28 [.slice A3 rs.length d3], rLease A3 d3 rs, box (w1.heap.size + 1) 40 [.int .i64 l.id, .int .i64 l.token, .string l.path, .int .i64 l.made, .int .i64 l.ends, .int .i64 l.limit]])) (fun i _ => gv.length - (intOf i).toNat)
  case atStart =>
    have H := HH.out
    exact ⟨0, Nat.zero_le _, rfl, Lib.hid (by refine Hp.sel (by repeat (first | (with_reducible exact H) | (with_reducible apply Hp.alloc) | (with_reducible apply Hp.set) | (with_reducible apply Hp.drew) | (with_reducible apply Hp.drewN) | (with_reducible apply Hp.bytesW) | (with_reducible exact Upd.here) | (with_reducible exact Upd.hereR) | (with_reducible apply Upd.there) | (with_reducible apply Sz.alloc) | (with_reducible apply Sz.set) | (with_reducible apply Sz.drew) | (with_reducible apply Sz.drewN) | (with_reducible apply Sz.bytesW) | (with_reducible assumption) | (with_reducible exact Sz.base _))) ?_; (try simp only [List.set_cons_zero, List.set_cons_succ]); exact (by repeat (first | (with_reducible exact Sel.nil) | (with_reducible apply Sel.cons) | (with_reducible exact Del.here) | (with_reducible apply Del.there))))⟩
  case round =>
    clear HH
    obtain ⟨k, hk, rfl, HP⟩ := hrel
    have H := HP.out
    have F := H.facts; simp only [Facts, NeF, box, row, reg, cellsF, rLease, ne_eq, true_and, and_true, Nat.reduceAdd, Nat.zero_add] at F
    by_cases hlt : k < gv.length
    · have hk1 : (k : Int) < (gv.length : Int) := by omega
      have hk0 : (0 : Int) ≤ (k : Int) := by omega
      have HK1 : Hid (k + 1 ≤ gv.length ∧ gv.length - (k + 1) < gv.length - k) := ⟨by omega, by omega⟩
      obtain ⟨g, rfl⟩ := rowGl (H.rowM (show rLease A5 d5 gv ∈ _ from (by repeat (first | (with_reducible exact List.mem_cons_self) | (with_reducible apply List.mem_cons_of_mem))))) hgp
      have HC8 : Hid (∀ (W : World) (M : List Ent), Hp w W M → rLease (some ⟨g, 0, none⟩) d5 gv ∈ M → _) := fun W M h hm9 => rlAtL h hm9 hlt
      have hg1 : decide (l.ends < gv[k].ends) = false := decide_eq_false (by have := (HO4.out _ (List.getElem_mem hlt)).2; omega)
      by_cases hkz : k = 0
      · have h2 : decide (0 < k) = false := by simp; omega
        have h2i : decide ((0 : Int) < (k : Int)) = false := by simp; omega
        generalize gv[k] = gk at *
        clear hkz hlt F HP
        go_upto_region 17 with fail
        (refine wp_region_quiet (C := fun W => Hp w W [box w5.heap.size 28 [.slice A4 lv.length d4], rLease A4 d4 lv, rLease (some ⟨g, 0, none⟩) d5 gv, box w3.heap.size 28 [.slice A3 rs.length d3], rLease A3 d3 rs, box (w1.heap.size + 1) 40 [.int .i64 l.id, .int .i64 l.token, .string l.path, .int .i64 l.made, .int .i64 l.ends, .int .i64 l.limit]]) (by kernel_rfl) (by kernel_rfl) (by show Hp _ (World.drew _) _; exact (by repeat (first | (with_reducible exact H) | (with_reducible apply Hp.alloc) | (with_reducible apply Hp.set) | (with_reducible apply Hp.drew) | (with_reducible apply Hp.drewN) | (with_reducible apply Hp.bytesW) | (with_reducible exact Upd.here) | (with_reducible exact Upd.hereR) | (with_reducible apply Upd.there) | (with_reducible apply Sz.alloc) | (with_reducible apply Sz.set) | (with_reducible apply Sz.drew) | (with_reducible apply Sz.drewN) | (with_reducible apply Sz.bytesW) | (with_reducible assumption) | (with_reducible exact Sz.base _)))) ?_; (repeat (first | go_big_quiet_skip | (refine BigFrame.wpQuiet_want (by rfl) (fun K hK => ?_); unfold Oper.quiet; apply Exists.intro; refine ⟨fun W hW => ?_, hK _ ?_⟩; (focus (have G := hW.facts; simp only [Facts, NeF, box, row, reg, cellsF, rLease, ne_eq, true_and, and_true, Nat.reduceAdd, Nat.zero_add] at G; obtain ⟨c0, c1, c2, c3, c4, c5⟩ := HC8.out _ _ hW (by repeat (first | (with_reducible exact List.mem_cons_self) | (with_reducible apply List.mem_cons_of_mem))); go_simp; first | rfl | fail)); clear hK K; simp only [Act.put, List.setIfInBounds_toArray, List.set_cons_zero, List.set_cons_succ]))); refine wpQuiet_nil ?_; intro wq H; have F := H.facts; simp only [Facts, NeF, box, row, reg, cellsF, rLease, ne_eq, true_and, and_true, Nat.reduceAdd, Nat.zero_add] at F)
        go_wp2_with fail
        go_roundw
        case rel => exact ⟨k + 1, HK1.out.1, by go_num, Lib.hid (by repeat (first | (with_reducible exact H) | (with_reducible apply Hp.alloc) | (with_reducible apply Hp.set) | (with_reducible apply Hp.drew) | (with_reducible apply Hp.drewN) | (with_reducible apply Hp.bytesW) | (with_reducible exact Upd.here) | (with_reducible exact Upd.hereR) | (with_reducible apply Upd.there) | (with_reducible apply Sz.alloc) | (with_reducible apply Sz.set) | (with_reducible apply Sz.drew) | (with_reducible apply Sz.drewN) | (with_reducible apply Sz.bytesW) | (with_reducible assumption) | (with_reducible exact Sz.base _)))⟩
        case measure => have := HK1.out.2; simp [intOf]; omega
      · have h2 : decide (0 < k) = true := by simp; omega
        have h2i : decide ((0 : Int) < (k : Int)) = true := by simp; omega
        have hw1 : IntKind.i64.wrap ((k : Int) - 1) = (k : Int) - 1 := by rw [IntKind.wrap_i64]; omega
        have hp1 : (k : Int) - 1 < (gv.length : Int) := by omega
        have hp0 : (0 : Int) ≤ (k : Int) - 1 := by omega
        have hp2 : (1 : Int) ≤ (k : Int) := by omega
        have HC9 : Hid (∀ (W : World) (M : List Ent), Hp w W M → rLease (some ⟨g, 0, none⟩) d5 gv ∈ M → _) := fun W M h hm9 => rlAtL h hm9 (show k - 1 < gv.length by omega)
        have hso := sorted_at HO5.out (k := k - 1) (by omega)
        have hkk : gv[k - 1 + 1]'(by omega) = gv[k] := by congr 1; omega
        rw [hkk] at hso
        clear hkk
        have hg2 : decide (gv[k].ends < (gv[k - 1]'(by omega)).ends) = false := decide_eq_false hso.1
        have hg3 : ((gv[k - 1]'(by omega)).ends == gv[k].ends) = false ∨ ((gv[k - 1]'(by omega)).ends == gv[k].ends) = true ∧ decide (gv[k].id ≤ (gv[k - 1]'(by omega)).id) = false := by
          cases he : ((gv[k - 1]'(by omega)).ends == gv[k].ends) with
          | false => exact .inl rfl
          | true => exact .inr ⟨rfl, decide_eq_false fun h => hso.2 ⟨by simpa using he, h⟩⟩
        clear hso
        generalize gv[k - 1]'(by omega) = gp at *
        generalize gv[k] = gk at *
        clear hkz hlt F HP
        rcases hg3 with hg3 | ⟨hg3, hg4⟩
        all_goals
          go_upto_region 17 with fail
          (refine wp_region_quiet (C := fun W => Hp w W [box w5.heap.size 28 [.slice A4 lv.length d4], rLease A4 d4 lv, rLease (some ⟨g, 0, none⟩) d5 gv, box w3.heap.size 28 [.slice A3 rs.length d3], rLease A3 d3 rs, box (w1.heap.size + 1) 40 [.int .i64 l.id, .int .i64 l.token, .string l.path, .int .i64 l.made, .int .i64 l.ends, .int .i64 l.limit]]) (by kernel_rfl) (by kernel_rfl) (by show Hp _ (World.drew _) _; exact (by repeat (first | (with_reducible exact H) | (with_reducible apply Hp.alloc) | (with_reducible apply Hp.set) | (with_reducible apply Hp.drew) | (with_reducible apply Hp.drewN) | (with_reducible apply Hp.bytesW) | (with_reducible exact Upd.here) | (with_reducible exact Upd.hereR) | (with_reducible apply Upd.there) | (with_reducible apply Sz.alloc) | (with_reducible apply Sz.set) | (with_reducible apply Sz.drew) | (with_reducible apply Sz.drewN) | (with_reducible apply Sz.bytesW) | (with_reducible assumption) | (with_reducible exact Sz.base _)))) ?_; (repeat (first | go_big_quiet_skip | (refine BigFrame.wpQuiet_want (by rfl) (fun K hK => ?_); unfold Oper.quiet; apply Exists.intro; refine ⟨fun W hW => ?_, hK _ ?_⟩; (focus (have G := hW.facts; simp only [Facts, NeF, box, row, reg, cellsF, rLease, ne_eq, true_and, and_true, Nat.reduceAdd, Nat.zero_add] at G; obtain ⟨c0, c1, c2, c3, c4, c5⟩ := HC8.out _ _ hW (by repeat (first | (with_reducible exact List.mem_cons_self) | (with_reducible apply List.mem_cons_of_mem))); obtain ⟨b0, b1, b2, b3, b4, b5⟩ := HC9.out _ _ hW (by repeat (first | (with_reducible exact List.mem_cons_self) | (with_reducible apply List.mem_cons_of_mem))); go_simp; first | rfl | fail)); clear hK K; simp only [Act.put, List.setIfInBounds_toArray, List.set_cons_zero, List.set_cons_succ]))); refine wpQuiet_nil ?_; intro wq H; have F := H.facts; simp only [Facts, NeF, box, row, reg, cellsF, rLease, ne_eq, true_and, and_true, Nat.reduceAdd, Nat.zero_add] at F)
          go_wp2_with fail
          go_roundw
          case rel => exact ⟨k + 1, HK1.out.1, by go_num, Lib.hid (by repeat (first | (with_reducible exact H) | (with_reducible apply Hp.alloc) | (with_reducible apply Hp.set) | (with_reducible apply Hp.drew) | (with_reducible apply Hp.drewN) | (with_reducible apply Hp.bytesW) | (with_reducible exact Upd.here) | (with_reducible exact Upd.hereR) | (with_reducible apply Upd.there) | (with_reducible apply Sz.alloc) | (with_reducible apply Sz.set) | (with_reducible apply Sz.drew) | (with_reducible apply Sz.drewN) | (with_reducible apply Sz.bytesW) | (with_reducible assumption) | (with_reducible exact Sz.base _)))⟩
          case measure => have := HK1.out.2; simp [intOf]; omega
    · have hk1 : ¬ (k : Int) < (gv.length : Int) := by omega
      clear hlt HP
      go_wp2_with fail
      refine call_atK (w0 := w) (by repeat (first | (with_reducible exact H) | (with_reducible apply Hp.alloc) | (with_reducible apply Hp.set) | (with_reducible apply Hp.drew) | (with_reducible apply Hp.drewN) | (with_reducible apply Hp.bytesW) | (with_reducible exact Upd.here) | (with_reducible exact Upd.hereR) | (with_reducible apply Upd.there) | (with_reducible apply Sz.alloc) | (with_reducible apply Sz.set) | (with_reducible apply Sz.drew) | (with_reducible apply Sz.drewN) | (with_reducible apply Sz.bytesW) | (with_reducible assumption) | (with_reducible exact Sz.base _))) fun H7 => ?_
      (try simp only [List.set_cons_zero, List.set_cons_succ, List.cons_append, List.nil_append] at H7)
      refine (implNextEnd_any A4 lv.length d4 lv _ (Hp.rdM H7 (show rLease A4 d4 lv ∈ _ from (by repeat (first | (with_reducible exact List.mem_cons_self) | (with_reducible apply List.mem_cons_of_mem))))) rfl (fun u hu => HRF.out u (HO6.out u hu).1) (hml.on H7.b)).mono ?_
      rintro e w7 ⟨d, rfl, hd7, q7⟩
      clear H F
      have H := H7.step q7
      (try simp only [List.set_cons_zero, List.set_cons_succ, List.cons_append, List.nil_append] at H)
      replace H : Hp w w7 [box w3.heap.size 28 [.slice A3 rs.length d3], rLease A3 d3 rs, box (w1.heap.size + 1) 40 [.int .i64 l.id, .int .i64 l.token, .string l.path, .int .i64 l.made, .int .i64 l.ends, .int .i64 l.limit]] := (by refine Hp.sel (by repeat (first | (with_reducible exact H) | (with_reducible apply Hp.alloc) | (with_reducible apply Hp.set) | (with_reducible apply Hp.drew) | (with_reducible apply Hp.drewN) | (with_reducible apply Hp.bytesW) | (with_reducible exact Upd.here) | (with_reducible exact Upd.hereR) | (with_reducible apply Upd.there) | (with_reducible apply Sz.alloc) | (with_reducible apply Sz.set) | (with_reducible apply Sz.drew) | (with_reducible apply Sz.drewN) | (with_reducible apply Sz.bytesW) | (with_reducible assumption) | (with_reducible exact Sz.base _))) ?_; (try simp only [List.set_cons_zero, List.set_cons_succ]); exact (by repeat (first | (with_reducible exact Sel.nil) | (with_reducible apply Sel.cons) | (with_reducible exact Del.here) | (with_reducible apply Del.there))))
      have F := H.facts; simp only [Facts, NeF, box, row, reg, cellsF, rLease, ne_eq, true_and, and_true, Nat.reduceAdd, Nat.zero_add] at F
      clear H7 q7
      have hd8 : decide (0 ≤ d) = false ∨ decide (0 ≤ d) = true ∧ decide (d ≤ l.ends) = false := by
        rcases hd7 with h | ⟨m, hm7, rfl⟩
        · exact .inl (decide_eq_false (by omega))
        · obtain ⟨-, h3, h4⟩ := HO6.out m hm7
          exact .inr ⟨decide_eq_true h4, decide_eq_false (by omega)⟩
      clear hd7
      go_upto_region 20 with fail
      go_cut [163] (fun s wc => s = .bool false ∧ Hp w wc [box w3.heap.size 28 [.slice A3 rs.length d3], rLease A3 d3 rs, box (w1.heap.size + 1) 40 [.int .i64 l.id, .int .i64 l.token, .string l.path, .int .i64 l.made, .int .i64 l.ends, .int .i64 l.limit]])
      case first =>
        rcases hd8 with hd8 | ⟨hd8, hd9⟩
        all_goals
          go_wp2_with fail
          go_meet
          exact ⟨rfl, (by refine Hp.sel (by repeat (first | (with_reducible exact H) | (with_reducible apply Hp.alloc) | (with_reducible apply Hp.set) | (with_reducible apply Hp.drew) | (with_reducible apply Hp.drewN) | (with_reducible apply Hp.bytesW) | (with_reducible exact Upd.here) | (with_reducible exact Upd.hereR) | (with_reducible apply Upd.there) | (with_reducible apply Sz.alloc) | (with_reducible apply Sz.set) | (with_reducible apply Sz.drew) | (with_reducible apply Sz.drewN) | (with_reducible apply Sz.bytesW) | (with_reducible assumption) | (with_reducible exact Sz.base _))) ?_; (try simp only [List.set_cons_zero, List.set_cons_succ]); exact (by repeat (first | (with_reducible exact Sel.nil) | (with_reducible apply Sel.cons) | (with_reducible exact Del.here) | (with_reducible apply Del.there))))⟩
      case rest =>
      clear H F hd8
      obtain ⟨rfl, H⟩ := hcut
      have F := H.facts; simp only [Facts, NeF, box, row, reg, cellsF, rLease, ne_eq, true_and, and_true, Nat.reduceAdd, Nat.zero_add] at F
      go_wp2_with fail
      refine call_atK (w0 := w) (by repeat (first | (with_reducible exact H) | (with_reducible apply Hp.alloc) | (with_reducible apply Hp.set) | (with_reducible apply Hp.drew) | (with_reducible apply Hp.drewN) | (with_reducible apply Hp.bytesW) | (with_reducible exact Upd.here) | (with_reducible exact Upd.hereR) | (with_reducible apply Upd.there) | (with_reducible apply Sz.alloc) | (with_reducible apply Sz.set) | (with_reducible apply Sz.drew) | (with_reducible apply Sz.drewN) | (with_reducible apply Sz.bytesW) | (with_reducible assumption) | (with_reducible exact Sz.base _))) fun H7 => ?_
      (try simp only [List.set_cons_zero, List.set_cons_succ, List.cons_append, List.nil_append] at H7)
      have H8 := Hp.boxRow H7 0 1 1 1 (by rfl) (by rfl) (Nat.le_refl _) (by unfold maxLen; omega)
      have htr := Hp.rd H8 0 (by rfl)
      clear H8
      refine (implDropOf_hp A3 rs.length d3 rs (some ⟨wc.heap.size, 0, none⟩) 1 1 [l.token] lo go _ HF1.out (Hp.rdM H7 (show rLease A3 d3 rs ∈ _ from (by repeat (first | (with_reducible exact List.mem_cons_self) | (with_reducible apply List.mem_cons_of_mem))))) rfl (by omega) HRF.out htr rfl (hml.on H7.b)).mono ?_
      rintro e w8 ⟨A6, d6, A7, d7, rfl, h8⟩
      clear H F
      have H := Hp.call H7 h8
      (try simp only [List.set_cons_zero, List.set_cons_succ, List.cons_append, List.nil_append] at H)
      replace H : Hp w w8 [rLease A7 d7 go, box w3.heap.size 28 [.slice A3 rs.length d3], rLease A3 d3 rs, box (w1.heap.size + 1) 40 [.int .i64 l.id, .int .i64 l.token, .string l.path, .int .i64 l.made, .int .i64 l.ends, .int .i64 l.limit]] := (by refine Hp.sel (by repeat (first | (with_reducible exact H) | (with_reducible apply Hp.alloc) | (with_reducible apply Hp.set) | (with_reducible apply Hp.drew) | (with_reducible apply Hp.drewN) | (with_reducible apply Hp.bytesW) | (with_reducible exact Upd.here) | (with_reducible exact Upd.hereR) | (with_reducible apply Upd.there) | (with_reducible apply Sz.alloc) | (with_reducible apply Sz.set) | (with_reducible apply Sz.drew) | (with_reducible apply Sz.drewN) | (with_reducible apply Sz.bytesW) | (with_reducible assumption) | (with_reducible exact Sz.base _))) ?_; (try simp only [List.set_cons_zero, List.set_cons_succ]); exact (by repeat (first | (with_reducible exact Sel.nil) | (with_reducible apply Sel.cons) | (with_reducible exact Del.here) | (with_reducible apply Del.there))))
      have F := H.facts; simp only [Facts, NeF, box, row, reg, cellsF, rLease, ne_eq, true_and, and_true, Nat.reduceAdd, Nat.zero_add] at F
      clear H7 h8 htr
      go_wp2_with fail
      refine call_atK (w0 := w) (by repeat (first | (with_reducible exact H) | (with_reducible apply Hp.alloc) | (with_reducible apply Hp.set) | (with_reducible apply Hp.drew) | (with_reducible apply Hp.drewN) | (with_reducible apply Hp.bytesW) | (with_reducible exact Upd.here) | (with_reducible exact Upd.hereR) | (with_reducible apply Upd.there) | (with_reducible apply Sz.alloc) | (with_reducible apply Sz.set) | (with_reducible apply Sz.drew) | (with_reducible apply Sz.drewN) | (with_reducible apply Sz.bytesW) | (with_reducible assumption) | (with_reducible exact Sz.base _))) fun H7 => ?_
      (try simp only [List.set_cons_zero, List.set_cons_succ, List.cons_append, List.nil_append] at H7)
      refine (implDropUnder_hp A3 rs.length d3 rs l.path lu gu _ HN1.out (Hp.rdM H7 (show rLease A3 d3 rs ∈ _ from (by repeat (first | (with_reducible exact List.mem_cons_self) | (with_reducible apply List.mem_cons_of_mem))))) rfl (by omega) HRF.out hlp (hml.on H7.b)).mono ?_
      rintro e w9 ⟨A8, d8, A9, d9, rfl, h9⟩
      clear H F
      have H := Hp.call H7 h9
      (try simp only [List.set_cons_zero, List.set_cons_succ, List.cons_append, List.nil_append] at H)
      replace H : Hp w w9 [rLease A9 d9 gu, rLease A7 d7 go, box (w1.heap.size + 1) 40 [.int .i64 l.id, .int .i64 l.token, .string l.path, .int .i64 l.made, .int .i64 l.ends, .int .i64 l.limit]] := (by refine Hp.sel (by repeat (first | (with_reducible exact H) | (with_reducible apply Hp.alloc) | (with_reducible apply Hp.set) | (with_reducible apply Hp.drew) | (with_reducible apply Hp.drewN) | (with_reducible apply Hp.bytesW) | (with_reducible exact Upd.here) | (with_reducible exact Upd.hereR) | (with_reducible apply Upd.there) | (with_reducible apply Sz.alloc) | (with_reducible apply Sz.set) | (with_reducible apply Sz.drew) | (with_reducible apply Sz.drewN) | (with_reducible apply Sz.bytesW) | (with_reducible assumption) | (with_reducible exact Sz.base _))) ?_; (try simp only [List.set_cons_zero, List.set_cons_succ]); exact (by repeat (first | (with_reducible exact Sel.nil) | (with_reducible apply Sel.cons) | (with_reducible exact Del.here) | (with_reducible apply Del.there))))
      have F := H.facts; simp only [Facts, NeF, box, row, reg, cellsF, rLease, ne_eq, true_and, and_true, Nat.reduceAdd, Nat.zero_add] at F
      clear H7 h9
      go_wp2_with fail
      have HH := Lib.hid H; clear H F
      have hop : 0 < go.length := List.length_pos_of_mem HF2.out
      go_loopw [19] (fun i wr => ∃ k : Nat, k ≤ go.length ∧ i = .int .i64 k ∧ Hid (Hp w wr [rLease A9 d9 gu, rLease A7 d7 go, box (w1.heap.size + 1) 40 [.int .i64 l.id, .int .i64 l.token, .string l.path, .int .i64 l.made, .int .i64 l.ends, .int .i64 l.limit]])) (fun i _ => go.length - (intOf i).toNat)
      case atStart =>
        have H := HH.out
        exact ⟨0, Nat.zero_le _, rfl, Lib.hid (by refine Hp.sel (by repeat (first | (with_reducible exact H) | (with_reducible apply Hp.alloc) | (with_reducible apply Hp.set) | (with_reducible apply Hp.drew) | (with_reducible apply Hp.drewN) | (with_reducible apply Hp.bytesW) | (with_reducible exact Upd.here) | (with_reducible exact Upd.hereR) | (with_reducible apply Upd.there) | (with_reducible apply Sz.alloc) | (with_reducible apply Sz.set) | (with_reducible apply Sz.drew) | (with_reducible apply Sz.drewN) | (with_reducible apply Sz.bytesW) | (with_reducible assumption) | (with_reducible exact Sz.base _))) ?_; (try simp only [List.set_cons_zero, List.set_cons_succ]); exact (by repeat (first | (with_reducible exact Sel.nil) | (with_reducible apply Sel.cons) | (with_reducible exact Del.here) | (with_reducible apply Del.there))))⟩
      case round =>
        clear HH
        obtain ⟨k, hk, rfl, HP⟩ := hrel
        have H := HP.out
        have F := H.facts; simp only [Facts, NeF, box, row, reg, cellsF, rLease, ne_eq, true_and, and_true, Nat.reduceAdd, Nat.zero_add] at F
        by_cases hlt : k < go.length
        · have hk1 : (k : Int) < (go.length : Int) := by omega
          have hk0 : (0 : Int) ≤ (k : Int) := by omega
          have HK1 : Hid (k + 1 ≤ go.length ∧ go.length - (k + 1) < go.length - k) := ⟨by omega, by omega⟩
          obtain ⟨g, rfl⟩ := rowGl (H.rowM (show rLease A7 d7 go ∈ _ from (by repeat (first | (with_reducible exact List.mem_cons_self) | (with_reducible apply List.mem_cons_of_mem))))) hop
          have htk : go[k].token = l.token := (HF3.out _ (List.getElem_mem hlt)).2
          have HC8 : Hid (∀ (W : World) (M : List Ent), Hp w W M → rLease (some ⟨g, 0, none⟩) d7 go ∈ M → W.cell? ⟨g, k * 6 + 1, none⟩ = some (.int .i64 l.token)) := fun W M h hm9 => by rw [← htk]; exact (rlAtL h hm9 hlt).2.1
          clear htk hlt F HP
          go_upto_region 27 with fail
          (refine wp_region_quiet (C := fun W => Hp w W [rLease A9 d9 gu, rLease (some ⟨g, 0, none⟩) d7 go, box (w1.heap.size + 1) 40 [.int .i64 l.id, .int .i64 l.token, .string l.path, .int .i64 l.made, .int .i64 l.ends, .int .i64 l.limit]]) (by kernel_rfl) (by kernel_rfl) (by show Hp _ (World.drew _) _; exact (by repeat (first | (with_reducible exact H) | (with_reducible apply Hp.alloc) | (with_reducible apply Hp.set) | (with_reducible apply Hp.drew) | (with_reducible apply Hp.drewN) | (with_reducible apply Hp.bytesW) | (with_reducible exact Upd.here) | (with_reducible exact Upd.hereR) | (with_reducible apply Upd.there) | (with_reducible apply Sz.alloc) | (with_reducible apply Sz.set) | (with_reducible apply Sz.drew) | (with_reducible apply Sz.drewN) | (with_reducible apply Sz.bytesW) | (with_reducible assumption) | (with_reducible exact Sz.base _)))) ?_; (repeat (first | go_big_quiet_skip | (refine BigFrame.wpQuiet_want (by rfl) (fun K hK => ?_); unfold Oper.quiet; apply Exists.intro; refine ⟨fun W hW => ?_, hK _ ?_⟩; (focus (have G := hW.facts; simp only [Facts, NeF, box, row, reg, cellsF, rLease, ne_eq, true_and, and_true, Nat.reduceAdd, Nat.zero_add] at G; have c1 := HC8.out _ _ hW (by repeat (first | (with_reducible exact List.mem_cons_self) | (with_reducible apply List.mem_cons_of_mem))); go_simp; first | rfl | fail)); clear hK K; simp only [Act.put, List.setIfInBounds_toArray, List.set_cons_zero, List.set_cons_succ]))); refine wpQuiet_nil ?_; intro wq H; have F := H.facts; simp only [Facts, NeF, box, row, reg, cellsF, rLease, ne_eq, true_and, and_true, Nat.reduceAdd, Nat.zero_add] at F)
          go_wp2_with fail
          go_roundw
          case rel => exact ⟨k + 1, HK1.out.1, by go_num, Lib.hid (by repeat (first | (with_reducible exact H) | (with_reducible apply Hp.alloc) | (with_reducible apply Hp.set) | (with_reducible apply Hp.drew) | (with_reducible apply Hp.drewN) | (with_reducible apply Hp.bytesW) | (with_reducible exact Upd.here) | (with_reducible exact Upd.hereR) | (with_reducible apply Upd.there) | (with_reducible apply Sz.alloc) | (with_reducible apply Sz.set) | (with_reducible apply Sz.drew) | (with_reducible apply Sz.drewN) | (with_reducible apply Sz.bytesW) | (with_reducible assumption) | (with_reducible exact Sz.base _)))⟩
          case measure => have := HK1.out.2; simp [intOf]; omega
        · have hk1 : ¬ (k : Int) < (go.length : Int) := by omega
          clear hlt HP
          go_wp2_with fail
          refine call_atK (w0 := w) (by repeat (first | (with_reducible exact H) | (with_reducible apply Hp.alloc) | (with_reducible apply Hp.set) | (with_reducible apply Hp.drew) | (with_reducible apply Hp.drewN) | (with_reducible apply Hp.bytesW) | (with_reducible exact Upd.here) | (with_reducible exact Upd.hereR) | (with_reducible apply Upd.there) | (with_reducible apply Sz.alloc) | (with_reducible apply Sz.set) | (with_reducible apply Sz.drew) | (with_reducible apply Sz.drewN) | (with_reducible apply Sz.bytesW) | (with_reducible assumption) | (with_reducible exact Sz.base _))) fun H7 => ?_
          (try simp only [List.set_cons_zero, List.set_cons_succ, List.cons_append, List.nil_append] at H7)
          refine (hasLease_any A7 go.length d7 go l _ (Hp.rdM H7 (show rLease A7 d7 go ∈ _ from (by repeat (first | (with_reducible exact List.mem_cons_self) | (with_reducible apply List.mem_cons_of_mem))))) rfl HF2.out).mono ?_
          rintro e w10 ⟨rfl, q10⟩
          clear H F
          have H := H7.step q10
          (try simp only [List.set_cons_zero, List.set_cons_succ, List.cons_append, List.nil_append] at H)
          have F := H.facts; simp only [Facts, NeF, box, row, reg, cellsF, rLease, ne_eq, true_and, and_true, Nat.reduceAdd, Nat.zero_add] at F
          clear H7 q10
          go_wp2_with fail
          refine call_atK (w0 := w) (by repeat (first | (with_reducible exact H) | (with_reducible apply Hp.alloc) | (with_reducible apply Hp.set) | (with_reducible apply Hp.drew) | (with_reducible apply Hp.drewN) | (with_reducible apply Hp.bytesW) | (with_reducible exact Upd.here) | (with_reducible exact Upd.hereR) | (with_reducible apply Upd.there) | (with_reducible apply Sz.alloc) | (with_reducible apply Sz.set) | (with_reducible apply Sz.drew) | (with_reducible apply Sz.drewN) | (with_reducible apply Sz.bytesW) | (with_reducible assumption) | (with_reducible exact Sz.base _))) fun H7 => ?_
          (try simp only [List.set_cons_zero, List.set_cons_succ, List.cons_append, List.nil_append] at H7)
          refine (hasLease_any A9 gu.length d9 gu l _ (Hp.rdM H7 (show rLease A9 d9 gu ∈ _ from (by repeat (first | (with_reducible exact List.mem_cons_self) | (with_reducible apply List.mem_cons_of_mem))))) rfl HN2.out).mono ?_
          rintro e w11 ⟨rfl, q11⟩
          clear H F
          have H := H7.step q11
          (try simp only [List.set_cons_zero, List.set_cons_succ, List.cons_append, List.nil_append] at H)
          have F := H.facts; simp only [Facts, NeF, box, row, reg, cellsF, rLease, ne_eq, true_and, and_true, Nat.reduceAdd, Nat.zero_add] at F
          clear H7 q11
          go_wp2_with fail
          go_ret
          exact ⟨rfl, Hp.b (by repeat (first | (with_reducible exact H) | (with_reducible apply Hp.alloc) | (with_reducible apply Hp.set) | (with_reducible apply Hp.drew) | (with_reducible apply Hp.drewN) | (with_reducible apply Hp.bytesW) | (with_reducible exact Upd.here) | (with_reducible exact Upd.hereR) | (with_reducible apply Upd.there) | (with_reducible apply Sz.alloc) | (with_reducible apply Sz.set) | (with_reducible apply Sz.drew) | (with_reducible apply Sz.drewN) | (with_reducible apply Sz.bytesW) | (with_reducible assumption) | (with_reducible exact Sz.base _)))⟩
end Go.Proofs.YtlmmeeeoljlgcaaDoor

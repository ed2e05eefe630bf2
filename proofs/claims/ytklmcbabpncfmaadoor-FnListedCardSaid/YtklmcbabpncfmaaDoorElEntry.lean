/- Elements Entry (each with a row of versions, each with a row of bytes): data, and contracts of the statements' own helpers over them. No condition. -/
import Derived.Test.YtklmcbabpncfmaaDoorElVer
import Derived.Test.YtklmcbabpncfmaaDoorMark
import Derived.Deep.QuietTactic
import Derived.BigQuiet
import Derived.Deep.RegionHeld3
namespace Go.Proofs.YtklmcbabpncfmaaDoor
open Go.RowKit
set_option linter.unusedVariables false
set_option linter.unusedSimpArgs false
structure Entry where
  path : ByteArray
  first : Int
  vs : List Ver
  va : Option Addr
  vc : Nat
def encEntry (x : Entry) : List Value := [.string x.path, .int .i64 x.first, .slice x.va x.vs.length x.vc]
theorem encEntry_len (x : Entry) : (encEntry x).length = 3 := rfl
abbrev valEntry (x : Entry) : Value := .agg #[.string x.path, .int .i64 x.first, .slice x.va x.vs.length x.vc]
/-- What an entry holds, without where its versions and their bytes lie. -/
def plE (x : Entry) : Entry := { x with vs := x.vs.map plV, va := none, vc := 0 }
/-- The versions of an entry read, with their bytes, and lie at lo or above. -/
def DE (lo : Nat) (w : World) (x : Entry) : Prop := RdL lo 4 w x.va x.vs.length x.vc (x.vs.flatMap encVer) ∧ ∀ v ∈ x.vs, DV lo w v
theorem RdL.step {lo k n c : Nat} {w w' : World} {A : Option Addr} {xs : List Value} (h : RdL lo k w A n c xs) (hb : Below w.heap.size w w') : RdL lo k w' A n c xs := ⟨h.1.grow hb, h.2⟩
theorem DE.step {lo : Nat} {w w' : World} {x : Entry} (h : DE lo w x) (hb : Below w.heap.size w w') : DE lo w' x := ⟨h.1.step hb, fun v hv => (h.2 v hv).step hb⟩
theorem DE.set {lo g o : Nat} {w : World} {x : Entry} {v : Value} (h : DE lo w x) (hg : g < lo) : DE lo (w.setCell ⟨g, o, none⟩ v) x := ⟨h.1.set hg, fun v hv => (h.2 v hv).set hg⟩
theorem RdL.low {lo lo' k n c : Nat} {w : World} {A : Option Addr} {xs : List Value} (h : RdL lo k w A n c xs) (hl : lo' ≤ lo) : RdL lo' k w A n c xs := ⟨h.1, fun a ha => Nat.le_trans hl (h.2 a ha)⟩
theorem DV.low {lo lo' : Nat} {w : World} {x : Ver} (h : DV lo w x) (hl : lo' ≤ lo) : DV lo' w x := ⟨h.1, fun a ha => Nat.le_trans hl (h.2 a ha)⟩
theorem DE.low {lo lo' : Nat} {w : World} {x : Entry} (h : DE lo w x) (hl : lo' ≤ lo) : DE lo' w x := ⟨h.1.low hl, fun v hv => (h.2 v hv).low hl⟩
theorem plE_at {us vs : List Entry} (h : us.map plE = vs.map plE) (k : Nat) (h1 : k < us.length) (h2 : k < vs.length) : plE us[k] = plE vs[k] := by
  have := congrArg (·[k]?) h
  simpa [h1, h2] using this
theorem plE_len {us vs : List Entry} (h : us.map plE = vs.map plE) : us.length = vs.length := by
  have := congrArg List.length h
  simpa using this
def szEntry (x : Entry) : Nat := x.path.size + (x.vs.length + sumVer x.vs)
def sumEntry (us : List Entry) : Nat := (us.map szEntry).sum
theorem sumEntry_take {us : List Entry} {k : Nat} (h : k < us.length) : sumEntry (us.take (k + 1)) = sumEntry (us.take k) + szEntry us[k] := by
  rw [sumEntry, sumEntry, List.take_succ_eq_append_getElem h, List.map_append, List.sum_append, List.map_cons, List.map_nil, List.sum_cons, List.sum_nil, Nat.add_zero]
theorem sumEntry_le (us : List Entry) (k : Nat) : sumEntry (us.take k) ≤ sumEntry us := by
  have h : sumEntry us = sumEntry (us.take k) + sumEntry (us.drop k) := by rw [sumEntry, sumEntry, sumEntry, ← List.sum_append, ← List.map_append, List.take_append_drop]
  omega
theorem Tryd.infoEntry : (Tryd.prog.info? 62).map (fun i => (i.zero, i.size, i.bytes)) = some (some (.agg #[.string ByteArray.empty, .int .i64 0, .slice none 0 0]), 3, 48) := by kernel_rfl
set_option maxHeartbeats 2000000 in
theorem toEntry_any (u : Entry) (w : World) (hd : DE 0 w u) (hb : u.vs.length ≤ 1048576) (hdl : ∀ v ∈ u.vs, v.data.length ≤ 1048576) :
    Calls Tryd.prog 81 #[valEntry u] w fun e w' => ∃ A' c', ∃ vs' : List Ver, e = .returned (valEntry ⟨u.path, u.first, vs', A', c'⟩) ∧ vs'.map plV = u.vs.map plV ∧ DE w.heap.size w' ⟨u.path, u.first, vs', A', c'⟩ ∧ Below w.heap.size w w' := by
  have H := Hp.nil w
  obtain ⟨path, first, vs, va, vc⟩ := u
  dsimp only [valEntry] at *
  go_enter Tryd.func81, Tryd.ntmps81
  go_wp2_with (go_at_call 101; refine (toVerS_any va vs.length vc vs _ (hd.1.1.grow (Hp.b (by repeat (first | (with_reducible exact H) | (with_reducible apply Hp.alloc) | (with_reducible apply Hp.set) | (with_reducible apply Hp.drew) | (with_reducible apply Hp.drewN) | (with_reducible apply Hp.bytesW) | (with_reducible exact Upd.here) | (with_reducible exact Upd.hereR) | (with_reducible apply Upd.there) | (with_reducible apply Sz.alloc) | (with_reducible apply Sz.set) | (with_reducible apply Sz.drew) | (with_reducible apply Sz.drewN) | (with_reducible apply Sz.bytesW) | (with_reducible assumption) | (with_reducible exact Sz.base _))))) rfl hb (fun u hu => (hd.2 u hu).step (Hp.b (by repeat (first | (with_reducible exact H) | (with_reducible apply Hp.alloc) | (with_reducible apply Hp.set) | (with_reducible apply Hp.drew) | (with_reducible apply Hp.drewN) | (with_reducible apply Hp.bytesW) | (with_reducible exact Upd.here) | (with_reducible exact Upd.hereR) | (with_reducible apply Upd.there) | (with_reducible apply Sz.alloc) | (with_reducible apply Sz.set) | (with_reducible apply Sz.drew) | (with_reducible apply Sz.drewN) | (with_reducible apply Sz.bytesW) | (with_reducible assumption) | (with_reducible exact Sz.base _))))) hdl).mono ?_; rintro e w1 ⟨A', c', vs', rfl, hp, hr1, hA1, hd1, q1⟩; replace H := Hp.step (by repeat (first | (with_reducible exact H) | (with_reducible apply Hp.alloc) | (with_reducible apply Hp.set) | (with_reducible apply Hp.drew) | (with_reducible apply Hp.drewN) | (with_reducible apply Hp.bytesW) | (with_reducible exact Upd.here) | (with_reducible exact Upd.hereR) | (with_reducible apply Upd.there) | (with_reducible apply Sz.alloc) | (with_reducible apply Sz.set) | (with_reducible apply Sz.drew) | (with_reducible apply Sz.drewN) | (with_reducible apply Sz.bytesW) | (with_reducible assumption) | (with_reducible exact Sz.base _))) q1; (try simp only [List.set_cons_zero, List.set_cons_succ, List.cons_append, List.nil_append] at H); clear q1; have F := H.facts; simp only [Facts, NeF, box, row, reg, cellsF, ne_eq, true_and, and_true, Nat.reduceAdd, Nat.zero_add] at F)
  simp only [World.size_alloc] at hA1 hd1
  have hl : vs.length = vs'.length := (plV_len hp).symm
  have HR : RdL (w.heap.size + 1 + 1 + 1) 4 w1 A' vs'.length c' (vs'.flatMap encVer) := ⟨by rw [← hl]; exact hr1, hA1⟩
  refine bodyPost_ret (v := .agg #[.string path, .int .i64 first, .slice A' vs.length c']) (by simp [results, Tryd.results81, go_sem, F] <;> omega) rfl ⟨A', c', vs', by rw [hl], hp, ⟨(show RdL (w.heap.size + 1 + 1 + 1) 4 _ A' vs'.length c' (vs'.flatMap encVer) from ?_).low (by omega), fun v hv => (show DV (w.heap.size + 1 + 1 + 1) _ v from ?_).low (by omega)⟩, Hp.b (by repeat (first | (with_reducible exact H) | (with_reducible apply Hp.alloc) | (with_reducible apply Hp.set) | (with_reducible apply Hp.drew) | (with_reducible apply Hp.drewN) | (with_reducible apply Hp.bytesW) | (with_reducible exact Upd.here) | (with_reducible exact Upd.hereR) | (with_reducible apply Upd.there) | (with_reducible apply Sz.alloc) | (with_reducible apply Sz.set) | (with_reducible apply Sz.drew) | (with_reducible apply Sz.drewN) | (with_reducible apply Sz.bytesW) | (with_reducible assumption) | (with_reducible exact Sz.base _)))⟩
  · repeat (first | exact HR | refine RdL.set ?_ (by omega))
  · have hv1 := hd1 v hv
    repeat (first | exact hv1 | refine DV.set ?_ (by omega))
set_option maxHeartbeats 4000000 in
theorem toEntryS_any (A : Option Addr) (n c : Nat) (us : List Entry) (w : World) (hr : Rd w w.heap.size 3 A n c (us.flatMap encEntry)) (hn : us.length = n) (hb20 : n ≤ 1048576) (hd : ∀ u ∈ us, DE 0 w u) (hvl : ∀ u ∈ us, u.vs.length ≤ 1048576) (hdl : ∀ u ∈ us, ∀ v ∈ u.vs, v.data.length ≤ 1048576) :
    Calls Tryd.prog 56 #[.slice A n c] w fun e w' => ∃ A' c', ∃ vs : List Entry, e = .returned (.slice A' n c') ∧ vs.map plE = us.map plE ∧ Rd w' w'.heap.size 3 A' n c' (vs.flatMap encEntry) ∧ (∀ a, A' = some a → w.heap.size ≤ a.block) ∧ (∀ v ∈ vs, DE w.heap.size w' v) ∧ Below w.heap.size w w' := by
  obtain ⟨i0, hi, hz0, hz1, hz2⟩ := info_parts Tryd.infoEntry
  have hc := hr.2.1
  have hm := hr.2.2.1
  unfold maxLen at hm
  go_enter Tryd.func56, Tryd.ntmps56
  go_wp2_with (at_make; refine wpList_make_full _ rfl _ _ 24 rfl w.heap.size 62 i0 _ 3 Tryd.underlying24 hi hz0 hz1 _ _ _ _ n rfl rfl rfl rfl ?_ ?_ ?_ ?_; rotate_right; intro w1 hown hgrow)
  case refine_1 => rw [hz2]; omega
  case refine_2 => unfold maxLen; omega
  case refine_3 => exact Nat.le_refl _
  have HB1 : Below w.heap.size w w1 := (Below.refl _ _).grown hgrow (Nat.le_refl _) (fun k hk => by cases hk)
  have hlt1 : w.heap.size < w1.heap.size := ((Own.of hown).lt w.heap.size rfl).2
  generalize (madeCells (Value.cells (.agg #[.string ByteArray.empty, .int .i64 0, .slice none 0 0])) (n * 3)).toList = cs0 at *
  clear hgrow
  go_loopw [4] (fun i wr => ∃ k : Nat, k ≤ n ∧ i = .int .i64 k ∧ Below w.heap.size w wr ∧ w.heap.size < wr.heap.size ∧ ∃ vs : List Entry, Hid (vs.length = k ∧ vs.map plE = (us.take k).map plE ∧ ∀ v ∈ vs, DE (w.heap.size + 1) wr v) ∧ ∃ cs, wr.ownsRow w.heap.size 62 3 (.slice (some ⟨w.heap.size, 0, none⟩) n n) n cs ∧ Hid (cs.take (k * 3) = vs.flatMap encEntry)) (fun i _ => n - (intOf i).toNat)
  case atStart => exact ⟨0, Nat.zero_le _, rfl, HB1, hlt1, [], ⟨rfl, rfl, fun _ h => by cases h⟩, cs0, hown, by show _ = _; simp⟩
  case round =>
    clear HB1 hown hlt1
    obtain ⟨k, hk, rfl, HB, hws, vs, HV, cs, hown, HC⟩ := hrel
    by_cases hlt : k < n
    · obtain ⟨b, off, rfl, hb, hcell⟩ := hr.elem encEntry_len hn hlt
      have c0 := HB.cell (p := ⟨b, off + k * 3 + 0, none⟩) (by omega) |>.trans (hcell 0 _ rfl)
      have c1 := HB.cell (p := ⟨b, off + k * 3 + 1, none⟩) (by omega) |>.trans (hcell 1 _ rfl)
      have c2 := HB.cell (p := ⟨b, off + k * 3 + 2, none⟩) (by omega) |>.trans (hcell 2 _ rfl)
      simp only [Nat.add_zero] at c0
      have hz := HB.size
      have hkl : k < us.length := by omega
      have HPL : Hid ((us.take (k + 1)).map plE = vs.map plE ++ [plE us[k]]) := by show _ = _; rw [List.take_succ_eq_append_getElem hkl, List.map_append, ← HV.out.2.1]; rfl
      have hdk := (hd us[k] (List.getElem_mem hkl)).step HB
      have hvk := hvl us[k] (List.getElem_mem hkl)
      have hlk := hdl us[k] (List.getElem_mem hkl)
      have HT : Hid (∀ v' : Entry, (setL cs (k * 3) (encEntry v')).take ((k + 1) * 3) = (vs ++ [v']).flatMap encEntry) := fun v' => take_flat_new encEntry_len HV.out.1 hlt HC.out hown.1 v'
      clear hcell
      generalize us[k] = u at *
      obtain ⟨path, first, es, va, vc⟩ := u
      dsimp only at c0 c1 c2 hdk hlk hvk
      go_wp2_with (go_at_call 81; refine (toEntry_any ⟨path, first, es, va, vc⟩ _ hdk hvk hlk).mono ?_; rintro e w1 ⟨A', c', es', rfl, hp, hdn, hb1⟩; have hown1 := own_grow hown hb1; obtain ⟨v0, hv0, d0⟩ := own_cell hown1 (j := k * 3 + 0) (by omega); have f0 := hown1.frozenAt (k * 3 + 0); obtain ⟨v1, hv1, d1⟩ := own_cell hown1 (j := k * 3 + 1) (by omega); have f1 := hown1.frozenAt (k * 3 + 1); obtain ⟨v2, hv2, d2⟩ := own_cell hown1 (j := k * 3 + 2) (by omega); have f2 := hown1.frozenAt (k * 3 + 2); simp only [Nat.add_zero] at d0 f0)
      have hnew : DE (w.heap.size + 1) w1 ⟨path, first, es', A', c'⟩ := hdn.low (by omega)
      have HA : Hid (∀ v ∈ vs ++ [(⟨path, first, es', A', c'⟩ : Entry)], DE (w.heap.size + 1) w1 v) := by
        intro v hv
        rcases List.mem_append.1 hv with hv | hv
        · exact (HV.out.2.2 v hv).step hb1
        · rw [List.mem_singleton.1 hv]; exact hnew
      have HPE : Hid (plE ⟨path, first, es', A', c'⟩ = plE ⟨path, first, es, va, vc⟩) := by show _ = _; simp only [plE]; rw [hp]
      have hws1 : w.heap.size < w1.heap.size := Nat.lt_of_lt_of_le hws hb1.size
      go_roundw
      case rel => exact ⟨k + 1, by omega, by go_num, ((((blift HB hb1 hz).setCell (by simp) _).setCell (by simp) _).setCell (by simp) _), by simpa [World.setCell] using hws1, vs ++ [(⟨path, first, es', A', c'⟩ : Entry)], ⟨by simp [HV.out.1], by rw [HPL.out, List.map_append, ← HPE.out]; rfl, fun v hv => (((HA.out v hv).set (by omega)).set (by omega)).set (by omega)⟩, _, (((hown1.stored (k * 3) (.string path)).1.stored (k * 3 + 1) (.int .i64 first)).1.stored (k * 3 + 2) (.slice A' es'.length c')).1, Lib.hid (HT.out ⟨path, first, es', A', c'⟩)⟩
      case measure => simp [intOf]; omega
    · have HF : Hid (cs = vs.flatMap encEntry) := by
        have h2 := HC.out
        have h3 := HV.out.1
        rw [List.take_of_length_le (by rw [hown.1]; omega)] at h2
        exact h2
      have HG : Hid (vs.map plE = us.map plE) := by show _ = _; rw [HV.out.2.1, List.take_of_length_le (by omega)]
      go_wp2_with fail
      go_ret
      exact ⟨_, _, vs, rfl, HG.out, by rw [← HF.out]; exact (Own.of hown).rd, fun a ha => by cases ha; exact Nat.le_refl _, fun v hv => (HV.out.2.2 v hv).low (by omega), HB⟩
set_option maxHeartbeats 2000000 in
theorem eqEntry_any (u v : Entry) (hp : plE u = plE v) (w : World) (hu : DE 0 w u) (hv : DE 0 w v) :
    Calls Tryd.prog 82 #[valEntry u, valEntry v] w fun e w' => e = .returned (.bool true) ∧ Below w.heap.size w w' := by
  have H := Hp.nil w
  obtain ⟨path, first, vs, va, vc⟩ := u
  obtain ⟨path2, first2, vs2, va2, vc2⟩ := v
  simp only [plE, Entry.mk.injEq, true_and, and_true] at hp
  obtain ⟨rfl, rfl, hpv⟩ := hp
  have hl : vs2.length = vs.length := (plV_len hpv).symm
  have hu1 := hu.1.1
  have hv1 := hv.1.1
  have hu2 := hu.2
  have hv2 := hv.2
  dsimp only [valEntry] at *
  rw [hl] at hv1 ⊢
  clear hu hv
  go_enter Tryd.func82, Tryd.ntmps82
  go_wp2_with (go_at_call 102; refine (eqVerS_any va va2 vs.length vc vc2 vs vs2 _ (hu1.grow (Hp.b (by repeat (first | (with_reducible exact H) | (with_reducible apply Hp.alloc) | (with_reducible apply Hp.set) | (with_reducible apply Hp.drew) | (with_reducible apply Hp.drewN) | (with_reducible apply Hp.bytesW) | (with_reducible exact Upd.here) | (with_reducible exact Upd.hereR) | (with_reducible apply Upd.there) | (with_reducible apply Sz.alloc) | (with_reducible apply Sz.set) | (with_reducible apply Sz.drew) | (with_reducible apply Sz.drewN) | (with_reducible apply Sz.bytesW) | (with_reducible assumption) | (with_reducible exact Sz.base _))))) (hv1.grow (Hp.b (by repeat (first | (with_reducible exact H) | (with_reducible apply Hp.alloc) | (with_reducible apply Hp.set) | (with_reducible apply Hp.drew) | (with_reducible apply Hp.drewN) | (with_reducible apply Hp.bytesW) | (with_reducible exact Upd.here) | (with_reducible exact Upd.hereR) | (with_reducible apply Upd.there) | (with_reducible apply Sz.alloc) | (with_reducible apply Sz.set) | (with_reducible apply Sz.drew) | (with_reducible apply Sz.drewN) | (with_reducible apply Sz.bytesW) | (with_reducible assumption) | (with_reducible exact Sz.base _))))) rfl hpv (fun u hu' => (hu2 u hu').step (Hp.b (by repeat (first | (with_reducible exact H) | (with_reducible apply Hp.alloc) | (with_reducible apply Hp.set) | (with_reducible apply Hp.drew) | (with_reducible apply Hp.drewN) | (with_reducible apply Hp.bytesW) | (with_reducible exact Upd.here) | (with_reducible exact Upd.hereR) | (with_reducible apply Upd.there) | (with_reducible apply Sz.alloc) | (with_reducible apply Sz.set) | (with_reducible apply Sz.drew) | (with_reducible apply Sz.drewN) | (with_reducible apply Sz.bytesW) | (with_reducible assumption) | (with_reducible exact Sz.base _))))) (fun u hu' => (hv2 u hu').step (Hp.b (by repeat (first | (with_reducible exact H) | (with_reducible apply Hp.alloc) | (with_reducible apply Hp.set) | (with_reducible apply Hp.drew) | (with_reducible apply Hp.drewN) | (with_reducible apply Hp.bytesW) | (with_reducible exact Upd.here) | (with_reducible exact Upd.hereR) | (with_reducible apply Upd.there) | (with_reducible apply Sz.alloc) | (with_reducible apply Sz.set) | (with_reducible apply Sz.drew) | (with_reducible apply Sz.drewN) | (with_reducible apply Sz.bytesW) | (with_reducible assumption) | (with_reducible exact Sz.base _)))))).mono ?_; rintro e w1 ⟨rfl, h1⟩; replace H := Hp.step (by repeat (first | (with_reducible exact H) | (with_reducible apply Hp.alloc) | (with_reducible apply Hp.set) | (with_reducible apply Hp.drew) | (with_reducible apply Hp.drewN) | (with_reducible apply Hp.bytesW) | (with_reducible exact Upd.here) | (with_reducible exact Upd.hereR) | (with_reducible apply Upd.there) | (with_reducible apply Sz.alloc) | (with_reducible apply Sz.set) | (with_reducible apply Sz.drew) | (with_reducible apply Sz.drewN) | (with_reducible apply Sz.bytesW) | (with_reducible assumption) | (with_reducible exact Sz.base _))) h1; (try simp only [List.set_cons_zero, List.set_cons_succ, List.cons_append, List.nil_append] at H); clear h1; have F := H.facts; simp only [Facts, NeF, box, row, reg, cellsF, ne_eq, true_and, and_true, Nat.reduceAdd, Nat.zero_add] at F)
  go_ret
  exact ⟨rfl, Hp.b (by repeat (first | (with_reducible exact H) | (with_reducible apply Hp.alloc) | (with_reducible apply Hp.set) | (with_reducible apply Hp.drew) | (with_reducible apply Hp.drewN) | (with_reducible apply Hp.bytesW) | (with_reducible exact Upd.here) | (with_reducible exact Upd.hereR) | (with_reducible apply Upd.there) | (with_reducible apply Sz.alloc) | (with_reducible apply Sz.set) | (with_reducible apply Sz.drew) | (with_reducible apply Sz.drewN) | (with_reducible apply Sz.bytesW) | (with_reducible assumption) | (with_reducible exact Sz.base _)))⟩
set_option maxHeartbeats 2000000 in
theorem eqEntryS_any (A A' : Option Addr) (n c c' : Nat) (us vs : List Entry) (w : World) (hr : Rd w w.heap.size 3 A n c (us.flatMap encEntry)) (hr' : Rd w w.heap.size 3 A' n c' (vs.flatMap encEntry)) (hn : us.length = n) (hp : us.map plE = vs.map plE) (hu : ∀ u ∈ us, DE 0 w u) (hv : ∀ u ∈ vs, DE 0 w u) :
    Calls Tryd.prog 57 #[.slice A n c, .slice A' n c'] w fun e w' => e = .returned (.bool true) ∧ Below w.heap.size w w' := by
  have hc := hr.2.1
  have hm := hr.2.2.1
  have hc' := hr'.2.1
  have hvl : vs.length = n := by rw [← plE_len hp]; exact hn
  unfold maxLen at hm
  go_enter Tryd.func57, Tryd.ntmps57
  go_wp2_with fail
  go_loopw [5] (fun i wr => ∃ k : Nat, k ≤ n ∧ i = .int .i64 k ∧ Below w.heap.size w wr) (fun i _ => n - (intOf i).toNat)
  case atStart => exact ⟨0, Nat.zero_le _, rfl, Below.refl _ _⟩
  case round =>
    obtain ⟨k, hk, rfl, HB⟩ := hrel
    by_cases hlt : k < n
    · obtain ⟨b, off, rfl, hb, hcell⟩ := hr.elem encEntry_len hn hlt
      obtain ⟨b', off', rfl, hb', hcell'⟩ := hr'.elem encEntry_len hvl hlt
      have hz := HB.size
      have c0 := HB.cell (p := ⟨b, off + k * 3 + 0, none⟩) hb |>.trans (hcell 0 _ rfl)
      have e0 := HB.cell (p := ⟨b', off' + k * 3 + 0, none⟩) hb' |>.trans (hcell' 0 _ rfl)
      have c1 := HB.cell (p := ⟨b, off + k * 3 + 1, none⟩) hb |>.trans (hcell 1 _ rfl)
      have e1 := HB.cell (p := ⟨b', off' + k * 3 + 1, none⟩) hb' |>.trans (hcell' 1 _ rfl)
      have c2 := HB.cell (p := ⟨b, off + k * 3 + 2, none⟩) hb |>.trans (hcell 2 _ rfl)
      have e2 := HB.cell (p := ⟨b', off' + k * 3 + 2, none⟩) hb' |>.trans (hcell' 2 _ rfl)
      simp only [Nat.add_zero] at c0 e0
      have hpk := plE_at hp k (by omega) (by omega)
      have hdu := (hu us[k] (List.getElem_mem _)).step HB
      have hdv := (hv vs[k] (List.getElem_mem _)).step HB
      have HEQ : Hid (∀ W, Below wr.heap.size wr W → Calls Tryd.prog 82 #[valEntry us[k], valEntry vs[k]] W fun e w' => e = .returned (.bool true) ∧ Below W.heap.size W w') := fun W h => eqEntry_any _ _ hpk W (hdu.step h) (hdv.step h)
      clear hcell hcell' hpk hdu hdv
      generalize us[k] = u at *
      generalize vs[k] = v at *
      obtain ⟨path, first, es, va, vc⟩ := u
      obtain ⟨path2, first2, es2, va2, vc2⟩ := v
      dsimp only [valEntry] at *
      have hk1 : (k : Int) < (n : Int) := by omega
      go_wp2_with fail
      go_region_with (go_at_call 82; refine (HEQ.out _ (by first | exact Below.refl _ _ | exact (Below.refl _ _).drew | exact below_drewN (Below.refl _ _) _)).mono ?_; rintro e w1 ⟨rfl, hb1⟩)
      all_goals
        go_wp2
        go_roundw
        case rel => exact ⟨k + 1, by omega, by go_num, blift HB.drew hb1 hz⟩
        case measure => simp [intOf]; omega
    · go_wp2_with fail
      go_ret
      exact ⟨rfl, HB⟩
set_option maxHeartbeats 2000000 in
theorem szEntry_any (u : Entry) (left : Int) (w : World) (h0 : 0 ≤ left) (h1 : left ≤ 1048576) (hk : u.path.size ≤ maxLen) (hd : DE 0 w u) :
    Calls Tryd.prog 80 #[valEntry u, .int .i64 left] w fun e w' => e = .returned (.int .i64 (leftOf left (szEntry u))) ∧ Below w.heap.size w w' := by
  have H := Hp.nil w
  have hr := hd.1.1
  have hd2 := hd.2
  unfold maxLen at hk
  have HE : Hid (szEntry u = u.path.size + (u.vs.length + sumVer u.vs)) := rfl
  generalize szEntry u = sz at *
  obtain ⟨path, first, vs, va, vc⟩ := u
  dsimp only [valEntry] at *
  by_cases c0 : left - (path.size : Int) < 0
  · have HL : Hid (leftOf left sz = -1) := by have := HE.out; show _ = _; rw [leftOf, if_neg (by omega)]
    clear HE
    go_enter Tryd.func80, Tryd.ntmps80
    go_wp2_with fail
    go_ret
    exact ⟨by rw [HL.out]; rfl, Hp.b (by repeat (first | (with_reducible exact H) | (with_reducible apply Hp.alloc) | (with_reducible apply Hp.set) | (with_reducible apply Hp.drew) | (with_reducible apply Hp.drewN) | (with_reducible apply Hp.bytesW) | (with_reducible exact Upd.here) | (with_reducible exact Upd.hereR) | (with_reducible apply Upd.there) | (with_reducible apply Sz.alloc) | (with_reducible apply Sz.set) | (with_reducible apply Sz.drew) | (with_reducible apply Sz.drewN) | (with_reducible apply Sz.bytesW) | (with_reducible assumption) | (with_reducible exact Sz.base _)))⟩
  by_cases hx : leftOf (left - (path.size : Int)) (vs.length + sumVer vs) < 0
  · have HL : Hid (leftOf left sz = -1) := by have := HE.out; have := leftOf_neg hx; show _ = _; rw [leftOf, if_neg (by omega)]
    clear HE
    go_enter Tryd.func80, Tryd.ntmps80
    go_wp2_with (go_at_call 100; refine (szVerS_any va vs.length vc vs _ _ (hr.grow (Hp.b (by repeat (first | (with_reducible exact H) | (with_reducible apply Hp.alloc) | (with_reducible apply Hp.set) | (with_reducible apply Hp.drew) | (with_reducible apply Hp.drewN) | (with_reducible apply Hp.bytesW) | (with_reducible exact Upd.here) | (with_reducible exact Upd.hereR) | (with_reducible apply Upd.there) | (with_reducible apply Sz.alloc) | (with_reducible apply Sz.set) | (with_reducible apply Sz.drew) | (with_reducible apply Sz.drewN) | (with_reducible apply Sz.bytesW) | (with_reducible assumption) | (with_reducible exact Sz.base _))))) rfl (by omega) (by omega) (fun u hu => (hd2 u hu).step (Hp.b (by repeat (first | (with_reducible exact H) | (with_reducible apply Hp.alloc) | (with_reducible apply Hp.set) | (with_reducible apply Hp.drew) | (with_reducible apply Hp.drewN) | (with_reducible apply Hp.bytesW) | (with_reducible exact Upd.here) | (with_reducible exact Upd.hereR) | (with_reducible apply Upd.there) | (with_reducible apply Sz.alloc) | (with_reducible apply Sz.set) | (with_reducible apply Sz.drew) | (with_reducible apply Sz.drewN) | (with_reducible apply Sz.bytesW) | (with_reducible assumption) | (with_reducible exact Sz.base _)))))).mono ?_; rintro e w1 ⟨rfl, q1⟩; replace H := Hp.step (by repeat (first | (with_reducible exact H) | (with_reducible apply Hp.alloc) | (with_reducible apply Hp.set) | (with_reducible apply Hp.drew) | (with_reducible apply Hp.drewN) | (with_reducible apply Hp.bytesW) | (with_reducible exact Upd.here) | (with_reducible exact Upd.hereR) | (with_reducible apply Upd.there) | (with_reducible apply Sz.alloc) | (with_reducible apply Sz.set) | (with_reducible apply Sz.drew) | (with_reducible apply Sz.drewN) | (with_reducible apply Sz.bytesW) | (with_reducible assumption) | (with_reducible exact Sz.base _))) q1; (try simp only [List.set_cons_zero, List.set_cons_succ, List.cons_append, List.nil_append] at H); clear q1; have F := H.facts; simp only [Facts, NeF, box, row, reg, cellsF, ne_eq, true_and, and_true, Nat.reduceAdd, Nat.zero_add] at F)
    go_ret
    exact ⟨by rw [HL.out]; rfl, Hp.b (by repeat (first | (with_reducible exact H) | (with_reducible apply Hp.alloc) | (with_reducible apply Hp.set) | (with_reducible apply Hp.drew) | (with_reducible apply Hp.drewN) | (with_reducible apply Hp.bytesW) | (with_reducible exact Upd.here) | (with_reducible exact Upd.hereR) | (with_reducible apply Upd.there) | (with_reducible apply Sz.alloc) | (with_reducible apply Sz.set) | (with_reducible apply Sz.drew) | (with_reducible apply Sz.drewN) | (with_reducible apply Sz.bytesW) | (with_reducible assumption) | (with_reducible exact Sz.base _)))⟩
  · have HL : Hid (leftOf left sz = leftOf (left - (path.size : Int)) (vs.length + sumVer vs)) := by have := HE.out; have h9 := leftOf_nn (show 0 ≤ leftOf (left - (path.size : Int)) (vs.length + sumVer vs) by omega); show _ = _; rw [h9.2, leftOf, if_pos (by omega)]; omega
    clear HE
    go_enter Tryd.func80, Tryd.ntmps80
    go_wp2_with (go_at_call 100; refine (szVerS_any va vs.length vc vs _ _ (hr.grow (Hp.b (by repeat (first | (with_reducible exact H) | (with_reducible apply Hp.alloc) | (with_reducible apply Hp.set) | (with_reducible apply Hp.drew) | (with_reducible apply Hp.drewN) | (with_reducible apply Hp.bytesW) | (with_reducible exact Upd.here) | (with_reducible exact Upd.hereR) | (with_reducible apply Upd.there) | (with_reducible apply Sz.alloc) | (with_reducible apply Sz.set) | (with_reducible apply Sz.drew) | (with_reducible apply Sz.drewN) | (with_reducible apply Sz.bytesW) | (with_reducible assumption) | (with_reducible exact Sz.base _))))) rfl (by omega) (by omega) (fun u hu => (hd2 u hu).step (Hp.b (by repeat (first | (with_reducible exact H) | (with_reducible apply Hp.alloc) | (with_reducible apply Hp.set) | (with_reducible apply Hp.drew) | (with_reducible apply Hp.drewN) | (with_reducible apply Hp.bytesW) | (with_reducible exact Upd.here) | (with_reducible exact Upd.hereR) | (with_reducible apply Upd.there) | (with_reducible apply Sz.alloc) | (with_reducible apply Sz.set) | (with_reducible apply Sz.drew) | (with_reducible apply Sz.drewN) | (with_reducible apply Sz.bytesW) | (with_reducible assumption) | (with_reducible exact Sz.base _)))))).mono ?_; rintro e w1 ⟨rfl, q1⟩; replace H := Hp.step (by repeat (first | (with_reducible exact H) | (with_reducible apply Hp.alloc) | (with_reducible apply Hp.set) | (with_reducible apply Hp.drew) | (with_reducible apply Hp.drewN) | (with_reducible apply Hp.bytesW) | (with_reducible exact Upd.here) | (with_reducible exact Upd.hereR) | (with_reducible apply Upd.there) | (with_reducible apply Sz.alloc) | (with_reducible apply Sz.set) | (with_reducible apply Sz.drew) | (with_reducible apply Sz.drewN) | (with_reducible apply Sz.bytesW) | (with_reducible assumption) | (with_reducible exact Sz.base _))) q1; (try simp only [List.set_cons_zero, List.set_cons_succ, List.cons_append, List.nil_append] at H); clear q1; have F := H.facts; simp only [Facts, NeF, box, row, reg, cellsF, ne_eq, true_and, and_true, Nat.reduceAdd, Nat.zero_add] at F)
    go_ret
    exact ⟨by rw [HL.out]; rfl, Hp.b (by repeat (first | (with_reducible exact H) | (with_reducible apply Hp.alloc) | (with_reducible apply Hp.set) | (with_reducible apply Hp.drew) | (with_reducible apply Hp.drewN) | (with_reducible apply Hp.bytesW) | (with_reducible exact Upd.here) | (with_reducible exact Upd.hereR) | (with_reducible apply Upd.there) | (with_reducible apply Sz.alloc) | (with_reducible apply Sz.set) | (with_reducible apply Sz.drew) | (with_reducible apply Sz.drewN) | (with_reducible apply Sz.bytesW) | (with_reducible assumption) | (with_reducible exact Sz.base _)))⟩
set_option maxHeartbeats 2000000 in
theorem szEntryS_any (A : Option Addr) (n c : Nat) (us : List Entry) (left : Int) (w : World) (hr : Rd w w.heap.size 3 A n c (us.flatMap encEntry)) (hn : us.length = n) (h0 : 0 ≤ left) (h1 : left ≤ 1048576) (hf : ∀ u ∈ us, u.path.size ≤ maxLen) (hd : ∀ u ∈ us, DE 0 w u) :
    Calls Tryd.prog 55 #[.slice A n c, .int .i64 left] w fun e w' => e = .returned (.int .i64 (leftOf left (n + sumEntry us))) ∧ Below w.heap.size w w' := by
  have hc := hr.2.1
  have hm := hr.2.2.1
  unfold maxLen at hm
  by_cases c1 : left - (n : Int) < 0
  · go_enter Tryd.func55, Tryd.ntmps55
    go_wp2_with fail
    go_ret
    exact ⟨by rw [leftOf, if_neg (by omega)]; rfl, Below.refl _ _⟩
  · go_enter Tryd.func55, Tryd.ntmps55
    go_wp2_with fail
    go_loopw [1, 5] (fun l i wr => ∃ k : Nat, k ≤ n ∧ i = .int .i64 k ∧ ∃ m : Int, l = .int .i64 m ∧ 0 ≤ m ∧ m ≤ 1048576 ∧ Hid (m = left - n - sumEntry (us.take k)) ∧ Below w.heap.size w wr) (fun _ i _ => n - (intOf i).toNat)
    case atStart => exact ⟨0, Nat.zero_le _, rfl, _, rfl, by omega, by omega, by show _ = _; simp [sumEntry], Below.refl _ _⟩
    case round =>
      obtain ⟨k, hk, rfl, m, rfl, hm0, hm1, HM, HB⟩ := hrel
      by_cases hlt : k < n
      · obtain ⟨b, off, rfl, hb, hcell⟩ := hr.elem encEntry_len hn hlt
        have c0 := HB.cell (p := ⟨b, off + k * 3 + 0, none⟩) hb |>.trans (hcell 0 _ rfl)
        have c1 := HB.cell (p := ⟨b, off + k * 3 + 1, none⟩) hb |>.trans (hcell 1 _ rfl)
        have c2 := HB.cell (p := ⟨b, off + k * 3 + 2, none⟩) hb |>.trans (hcell 2 _ rfl)
        simp only [Nat.add_zero] at c0
        have hfk := hf us[k] (List.getElem_mem (by omega))
        have hdk := (hd us[k] (List.getElem_mem (by omega))).step HB
        have HS : Hid (sumEntry (us.take (k + 1)) = sumEntry (us.take k) + szEntry us[k]) := sumEntry_take (by omega)
        have HL : Hid (sumEntry (us.take (k + 1)) ≤ sumEntry us) := sumEntry_le us (k + 1)
        have hz := HB.size
        clear hcell
        have HZ : Hid (∀ W, Below wr.heap.size wr W → Calls Tryd.prog 80 #[valEntry us[k], .int .i64 m] W fun e w' => e = .returned (.int .i64 (leftOf m (szEntry us[k]))) ∧ Below W.heap.size W w') := fun W h => szEntry_any us[k] m W hm0 hm1 hfk (hdk.step h)
        generalize hsz : szEntry us[k] = sz at *
        clear hsz hfk hdk
        generalize us[k] = u at *
        obtain ⟨path, first, es, va, vc⟩ := u
        dsimp only [valEntry] at *
        go_wp2_with (go_at_call 80; refine (HZ.out _ (Below.refl _ _)).mono ?_; rintro e w1 ⟨rfl, hb1⟩)
        · go_ret
          have hx : leftOf m sz < 0 := by assumption
          have HN : leftOf left (n + sumEntry us) = -1 := by
            have := leftOf_neg hx; have := HM.out; have := HS.out; have := HL.out
            rw [leftOf, if_neg (by omega)]
          exact ⟨by rw [HN]; rfl, blift HB hb1 hz⟩
        · have hx : 0 ≤ leftOf m sz := by assumption
          have hx' := leftOf_nn hx
          go_roundw
          case rel => exact ⟨k + 1, by omega, by go_num, _, rfl, hx, by omega, by have := HM.out; have := HS.out; show _ = _; omega, blift HB hb1 hz⟩
          case measure => simp [intOf]; omega
      · have HF : Hid (m = leftOf left (n + sumEntry us)) := by
          have h2 := HM.out
          rw [List.take_of_length_le (by omega)] at h2
          show _ = _
          rw [leftOf, if_pos (by omega)]; omega
        go_wp2_with fail
        go_ret
        exact ⟨by rw [← HF.out]; simp, HB⟩
end Go.Proofs.YtklmcbabpncfmaaDoor

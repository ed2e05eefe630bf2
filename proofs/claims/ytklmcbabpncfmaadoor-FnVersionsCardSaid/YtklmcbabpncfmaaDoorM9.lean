/- Lists of numbers: whether one is there, copies (the reference's and package slices'). No condition. -/
import Derived.Test.YtklmcbabpncfmaaDoorM7
import Derived.Test.YtklmcbabpncfmaaDoorSlice
import Derived.Test.YtklmcbabpncfmaaDoorShelf
import Derived.Test.YtklmcbabpncfmaaDoorKvC
import Derived.Test.YtklmcbabpncfmaaDoorKvG
import Derived.Deep.RegionHeld3
import Derived.Deep.RegionLaw
import Derived.Test.YtklmcbabpncfmaaDoorKvJ
import Derived.Test.YtklmcbabpncfmaaDoorKvD
import Derived.Test.YtklmcbabpncfmaaDoorStoreC
import Derived.Deep.RegionWith
namespace Go.Proofs.YtklmcbabpncfmaaDoor
open Go.RowKit
set_option linter.unusedVariables false
set_option linter.unusedSimpArgs false
theorem Rd.intAt {w : World} {b off n c : Nat} {us : List Int} (hr : Rd w w.heap.size 1 (some ⟨b, off, none⟩) n c (us.flatMap encInt)) (hn : us.length = n) {k : Nat} (hk : k < us.length) (W : World) (hb : Below w.heap.size w W) : W.cell? ⟨b, off + k, none⟩ = some (.int .i64 us[k]) := by
  obtain ⟨b', off', hA', hb', hcell⟩ := hr.elem encInt_len hn (i := k) (by omega)
  obtain ⟨rfl, rfl⟩ : b = b' ∧ off = off' := by simpa using hA'
  exact (hb.cell (p := ⟨b, off + k, none⟩) hb').trans (by have := hcell 0 _ rfl; simpa using this)
theorem contains_at {us : List Int} {k : Nat} (hk : k < us.length) {x : Int} (h : us[k] = x) : hasI us x = true := by
  rw [hasI_iff, ← h]; exact List.getElem_mem hk
theorem contains_snoc {us : List Int} {k : Nat} (hk : k < us.length) {x : Int} (h : ¬ us[k] = x) (h1 : hasI (us.take k) x = false) : hasI (us.take (k + 1)) x = false := by
  rw [← Bool.not_eq_true, hasI_iff] at h1 ⊢
  rw [List.take_succ_eq_append_getElem hk, List.mem_append]
  rintro (h2 | h2)
  · exact h1 h2
  · have h3 : x = us[k] := by simpa using h2
    exact h h3.symm
end Go.Proofs.YtklmcbabpncfmaaDoor
namespace Go.Proofs.YtklmcbabpncfmaaDoor
open Go.RowKit
set_option linter.unusedVariables false
set_option linter.unusedSimpArgs false
/-- What a drop leaves, and its code. -/
def dropK (es : List Entry) (s : ByteArray) : List Entry × Int :=
  if storeOk es = true then (if 0 ≤ ixP (hasP s) es 0 then (es.filter (fun e => !hasP s e), 0) else (es, 2)) else (es, 1)
theorem keepE_at {us : List Entry} (hr : Rises (us.map (·.path))) {s : ByteArray} {i : Nat} (hj : i < us.length) (he : us[i].path = s) : us.filter (fun e => !hasP s e) = us.eraseIdx i := by
  have h0 : us = us.take i ++ us[i] :: us.drop (i + 1) := by rw [← List.drop_eq_getElem_cons hj, List.take_append_drop]
  have hne : ∀ j (hj' : j < us.length), j ≠ i → hasP s us[j] = false := by
    intro j hj' hn
    cases hq : hasP s us[j] with
    | false => rfl
    | true =>
      refine absurd (hr.inj (i := j) (j := i) (by simpa using hj') (by simpa using hj) ?_) hn
      simp only [List.getElem_map]
      rw [eqB_iff.1 hq, he]
  have h1 : (us.take i).filter (fun e => !hasP s e) = us.take i := by
    rw [List.filter_eq_self]
    intro u hu
    obtain ⟨j, hj', rfl⟩ := List.mem_take_iff_getElem.1 hu
    rw [hne j (by omega) (by omega)]; rfl
  have h2 : (us.drop (i + 1)).filter (fun e => !hasP s e) = us.drop (i + 1) := by
    rw [List.filter_eq_self]
    intro u hu
    obtain ⟨j, hj', rfl⟩ := List.getElem_of_mem hu
    rw [List.getElem_drop, hne _ (by simp at hj'; omega) (by omega)]; rfl
  rw [List.eraseIdx_eq_take_drop_succ]
  conv => lhs; rw [h0]
  rw [List.filter_append, h1, List.filter_cons_of_neg (by rw [hasP, eqB_iff.2 he]; simp), h2]
end Go.Proofs.YtklmcbabpncfmaaDoor
namespace Go.Proofs.YtklmcbabpncfmaaDoor
open Go.RowKit
set_option linter.unusedVariables false
set_option linter.unusedSimpArgs false
/-- A closure that turns one version. -/
def ClV (gf : Nat) (f : Ver → Ver) : Prop := ∀ (w0 W : World) (g n c k : Nat) (ds : List Ver) (M : List Ent) (hk : k < ds.length), ds.length = n → Hp w0 W (row 71 4 (.slice (some ⟨g, 0, none⟩) n c) n (ds.flatMap encVer) :: M) →
  Calls Tryd.prog gf #[.pointer (some ⟨g, k * 4, none⟩)] W fun e w' => e = .returned (.tuple #[]) ∧ Hp w0 w' (row 71 4 (.slice (some ⟨g, 0, none⟩) n c) n ((ds.set k (f ds[k])).flatMap encVer) :: M)
theorem act_quiet {what : Int} {v : Ver} (h : v.dead = true → v.gone = false) : (actV what v).dead = true → (actV what v).gone = false := by
  unfold actV
  split
  · intro _; rfl
  · split
    · exact h
    · next h2 => intro h3; exact absurd h3 h2
theorem chV_quiet {p : Nat → Bool} {what : Int} {vs : List Ver} (h : ∀ v ∈ vs, v.dead = true → v.gone = false) {k : Nat} (hk : k < (chV p (actV what) vs).length) : ((chV p (actV what) vs)[k]).dead = true → ((chV p (actV what) vs)[k]).gone = false := by
  have hk2 : k < vs.length := by rw [chV_len] at hk; exact hk
  have h2 : (chV p (actV what) vs)[k] = if p k then actV what vs[k] else vs[k] := chV_get hk2
  rw [h2]
  split
  · exact act_quiet (h _ (List.getElem_mem hk2))
  · exact h _ (List.getElem_mem hk2)
theorem take_act (v : Ver) (h : v.dead = true → v.gone = false) : goneV (!v.dead) v = actV 0 v := by
  obtain ⟨data, da, dc, made, gone, dead⟩ := v
  cases dead with
  | true => have := h rfl; dsimp only at this; subst this; rfl
  | false => rfl
theorem bring_act (v : Ver) (h : v.dead = true → v.gone = false) : goneV false v = actV 1 v := by
  obtain ⟨data, da, dc, made, gone, dead⟩ := v
  cases dead with
  | true => have := h rfl; dsimp only at this; subst this; rfl
  | false => rfl
theorem kill_act (v : Ver) (h : v.dead = true → v.gone = false) : killV v = actV 2 v := rfl
theorem act_verF (what : Int) (v : Ver) : verF (actV what v) = verF v ∨ verF (actV what v) = [rByte none 0 []] := by
  unfold actV
  split
  · exact .inr rfl
  · split
    · exact .inl rfl
    · exact .inl rfl
theorem ver_quiet {v : Ver} (h : verOk v = true) : v.dead = true → v.gone = false := by
  intro hd
  simp only [verOk, hd, Bool.not_true, Bool.false_or, Bool.and_eq_true, Bool.not_eq_true'] at h
  exact h.2.2.2
set_option maxHeartbeats 4000000 in
set_option maxRecDepth 10000 in
theorem clo0_hp : ClV 45 (fun v => goneV (!v.dead) v) := by
  intro w0 W g n c k ds M hk hn H
  have hrv := Rd.verAt (own_rdn (H.rowM List.mem_cons_self)) hn (k := k) hk rfl _ (Below.refl _ _)
  have hz := (H.rowM List.mem_cons_self).frozenAt
  have z0 := hz (k * 4)
  have z1 := hz (k * 4 + 1)
  have z2 := hz (k * 4 + 2)
  have z3 := hz (k * 4 + 3)
  clear hz
  obtain ⟨data, da, dc, made, gone, dead, HGV⟩ : ∃ data da dc made gone dead, Hid (ds[k] = (⟨data, da, dc, made, gone, dead⟩ : Ver)) := ⟨_, _, _, _, _, _, Lib.hid rfl⟩
  simp only [Nat.zero_add, HGV.out] at hrv
  obtain ⟨d0, d1, d2, d3⟩ := hrv
  have HFL : Hid ((ds.flatMap encVer).set (k * 4 + 2) (.bool (!dead)) = (ds.set k ((fun v => goneV (!v.dead) v) ds[k])).flatMap encVer) := by
    show _ = _
    rw [HGV.out]
    rw [flat_set1 (v := (⟨data, da, dc, made, !dead, dead⟩ : Ver)) encVer_len hk (t := 2) rfl (by decide) (by rw [HGV.out]; rfl)]; rfl
  go_enter Tryd.func45, Tryd.ntmps45
  go_wp2_with fail
  refine bodyPost_end (v := .tuple #[]) (by simp [results, Tryd.results45, go_sem]) rfl ⟨rfl, ?_⟩
  rw [← HFL.out]
  exact (by repeat (first | (with_reducible exact H) | (with_reducible apply Hp.alloc) | (with_reducible apply Hp.set) | (with_reducible apply Hp.drew) | (with_reducible apply Hp.drewN) | (with_reducible apply Hp.bytesW) | (with_reducible exact Upd.here) | (with_reducible exact Upd.hereR) | (with_reducible apply Upd.there) | (with_reducible apply Sz.alloc) | (with_reducible apply Sz.set) | (with_reducible apply Sz.drew) | (with_reducible apply Sz.drewN) | (with_reducible apply Sz.bytesW) | (with_reducible assumption) | (with_reducible exact Sz.base _)))
set_option maxHeartbeats 4000000 in
set_option maxRecDepth 10000 in
theorem clo1_hp : ClV 46 (fun v => goneV false v) := by
  intro w0 W g n c k ds M hk hn H
  have hrv := Rd.verAt (own_rdn (H.rowM List.mem_cons_self)) hn (k := k) hk rfl _ (Below.refl _ _)
  have hz := (H.rowM List.mem_cons_self).frozenAt
  have z0 := hz (k * 4)
  have z1 := hz (k * 4 + 1)
  have z2 := hz (k * 4 + 2)
  have z3 := hz (k * 4 + 3)
  clear hz
  obtain ⟨data, da, dc, made, gone, dead, HGV⟩ : ∃ data da dc made gone dead, Hid (ds[k] = (⟨data, da, dc, made, gone, dead⟩ : Ver)) := ⟨_, _, _, _, _, _, Lib.hid rfl⟩
  simp only [Nat.zero_add, HGV.out] at hrv
  obtain ⟨d0, d1, d2, d3⟩ := hrv
  have HFL : Hid ((ds.flatMap encVer).set (k * 4 + 2) (.bool false) = (ds.set k ((fun v => goneV false v) ds[k])).flatMap encVer) := by
    show _ = _
    rw [HGV.out]
    rw [flat_set1 (v := (⟨data, da, dc, made, false, dead⟩ : Ver)) encVer_len hk (t := 2) rfl (by decide) (by rw [HGV.out]; rfl)]; rfl
  go_enter Tryd.func46, Tryd.ntmps46
  go_wp2_with fail
  refine bodyPost_end (v := .tuple #[]) (by simp [results, Tryd.results46, go_sem]) rfl ⟨rfl, ?_⟩
  rw [← HFL.out]
  exact (by repeat (first | (with_reducible exact H) | (with_reducible apply Hp.alloc) | (with_reducible apply Hp.set) | (with_reducible apply Hp.drew) | (with_reducible apply Hp.drewN) | (with_reducible apply Hp.bytesW) | (with_reducible exact Upd.here) | (with_reducible exact Upd.hereR) | (with_reducible apply Upd.there) | (with_reducible apply Sz.alloc) | (with_reducible apply Sz.set) | (with_reducible apply Sz.drew) | (with_reducible apply Sz.drewN) | (with_reducible apply Sz.bytesW) | (with_reducible assumption) | (with_reducible exact Sz.base _)))
set_option maxHeartbeats 4000000 in
set_option maxRecDepth 10000 in
theorem clo2_hp : ClV 47 (killV) := by
  intro w0 W g n c k ds M hk hn H
  have hrv := Rd.verAt (own_rdn (H.rowM List.mem_cons_self)) hn (k := k) hk rfl _ (Below.refl _ _)
  have hz := (H.rowM List.mem_cons_self).frozenAt
  have z0 := hz (k * 4)
  have z1 := hz (k * 4 + 1)
  have z2 := hz (k * 4 + 2)
  have z3 := hz (k * 4 + 3)
  clear hz
  obtain ⟨data, da, dc, made, gone, dead, HGV⟩ : ∃ data da dc made gone dead, Hid (ds[k] = (⟨data, da, dc, made, gone, dead⟩ : Ver)) := ⟨_, _, _, _, _, _, Lib.hid rfl⟩
  simp only [Nat.zero_add, HGV.out] at hrv
  obtain ⟨d0, d1, d2, d3⟩ := hrv
  have HFL : Hid ((((ds.flatMap encVer).set (k * 4 + 3) (.bool true)).set (k * 4 + 2) (.bool false)).set (k * 4) (.slice none 0 0) = (ds.set k ((killV) ds[k])).flatMap encVer) := by
    show _ = _
    rw [HGV.out]
    rw [flat_set1 (v := (⟨data, da, dc, made, gone, true⟩ : Ver)) encVer_len hk (t := 3) rfl (by decide) (by rw [HGV.out]; rfl), flat_set1 (v := (⟨data, da, dc, made, false, true⟩ : Ver)) encVer_len (by simpa using hk) (t := 2) rfl (by decide) (by rw [List.getElem_set_self]; rfl), flat_set1 (v := (⟨[], none, 0, made, false, true⟩ : Ver)) encVer_len (by simpa using hk) (j := k * 4) (k := k) (t := 0) rfl (by decide) (by rw [List.getElem_set_self]; rfl), List.set_set, List.set_set]; rfl
  go_enter Tryd.func47, Tryd.ntmps47
  go_wp2_with fail
  refine bodyPost_end (v := .tuple #[]) (by simp [results, Tryd.results47, go_sem]) rfl ⟨rfl, ?_⟩
  rw [← HFL.out]
  exact (by repeat (first | (with_reducible exact H) | (with_reducible apply Hp.alloc) | (with_reducible apply Hp.set) | (with_reducible apply Hp.drew) | (with_reducible apply Hp.drewN) | (with_reducible apply Hp.bytesW) | (with_reducible exact Upd.here) | (with_reducible exact Upd.hereR) | (with_reducible apply Upd.there) | (with_reducible apply Sz.alloc) | (with_reducible apply Sz.set) | (with_reducible apply Sz.drew) | (with_reducible apply Sz.drewN) | (with_reducible apply Sz.bytesW) | (with_reducible assumption) | (with_reducible exact Sz.base _)))
set_option maxHeartbeats 16000000 in
set_option maxRecDepth 10000 in
theorem changeKv_hp (gf : Nat) (f : Ver → Ver) (what : Int) (eg : ∀ args w, (callFunc gf args).run Tryd.prog w = .ok (.enter gf args) w) (hcl : ClV gf f) (hfa : ∀ v : Ver, (v.dead = true → v.gone = false) → f v = actV what v) (A : Option Addr) (n c : Nat) (us : List Entry) (s : ByteArray) (LA : Option Addr) (ln lc : Nat) (ls : List Int) (rs : List Entry) (rc : Int) (w : World) (hdr : eachK us s ls what = (rs, rc)) (hr : Rd w w.heap.size 3 A n c (us.flatMap encEntry)) (hn : us.length = n) (hb20 : n ≤ 1048576) (hsz : ∀ u ∈ us, u.path.size ≤ maxLen) (hd : ∀ u ∈ us, DE 0 w u) (hvl : ∀ u ∈ us, u.vs.length ≤ 1048576) (hdl : ∀ u ∈ us, ∀ v ∈ u.vs, v.data.length ≤ 1048576) (hrl : Rd w w.heap.size 1 LA ln lc (ls.flatMap encInt)) (hnl : ls.length = ln) (hml : mlOk w) :
    Calls Tryd.prog 44 #[.agg #[.slice A n c], .string s, .slice LA ln lc, .func (.func gf) #[] #[]] w fun e w' => ∃ A' c', ∃ vs : List Entry, e = .returned (.tuple #[.agg #[.slice A' rs.length c'], .int .i64 rc]) ∧ vs.map plE = rs.map plE ∧ vs.length = rs.length ∧ Hp w w' [stoE A' c' rs.length vs] := by
  subst hn hnl
  have hc := hr.2.1
  have hm := hr.2.2.1
  unfold maxLen at hm
  have hlm := hrl.2.2.1
  have hlc := hrl.2.1
  unfold maxLen at hlm
  have H := Hp.nil w
  have HD := Lib.hid hdr; clear hdr
  have HCLO := Lib.hid hcl; clear hcl
  have HFA := Lib.hid hfa; clear hfa
  cases h1 : storeOk us with
  | false =>
    have HR : Hid ((us, (1 : Int)) = (rs, rc)) := by show _ = _; rw [← HD.out, eachK, if_neg (by rw [h1]; decide)]
    go_enter Tryd.func44, Tryd.ntmps44
    go_wp2_with (first | (go_at_call 41; refine (cloneStore_hp A us.length c us _ (hr.grow (Hp.b (by repeat (first | (with_reducible exact H) | (with_reducible apply Hp.alloc) | (with_reducible apply Hp.set) | (with_reducible apply Hp.drew) | (with_reducible apply Hp.drewN) | (with_reducible apply Hp.bytesW) | (with_reducible exact Upd.here) | (with_reducible exact Upd.hereR) | (with_reducible apply Upd.there) | (with_reducible apply Sz.alloc) | (with_reducible apply Sz.set) | (with_reducible apply Sz.drew) | (with_reducible apply Sz.drewN) | (with_reducible apply Sz.bytesW) | (with_reducible assumption) | (with_reducible exact Sz.base _))))) rfl hb20 (fun u hu => (hd u hu).step (Hp.b (by repeat (first | (with_reducible exact H) | (with_reducible apply Hp.alloc) | (with_reducible apply Hp.set) | (with_reducible apply Hp.drew) | (with_reducible apply Hp.drewN) | (with_reducible apply Hp.bytesW) | (with_reducible exact Upd.here) | (with_reducible exact Upd.hereR) | (with_reducible apply Upd.there) | (with_reducible apply Sz.alloc) | (with_reducible apply Sz.set) | (with_reducible apply Sz.drew) | (with_reducible apply Sz.drewN) | (with_reducible apply Sz.bytesW) | (with_reducible assumption) | (with_reducible exact Sz.base _))))) hvl hdl).mono ?_; rintro e w3 ⟨A3, c3, vs3, rfl, hp3, hl3, h3⟩; replace H := Hp.call (by repeat (first | (with_reducible exact H) | (with_reducible apply Hp.alloc) | (with_reducible apply Hp.set) | (with_reducible apply Hp.drew) | (with_reducible apply Hp.drewN) | (with_reducible apply Hp.bytesW) | (with_reducible exact Upd.here) | (with_reducible exact Upd.hereR) | (with_reducible apply Upd.there) | (with_reducible apply Sz.alloc) | (with_reducible apply Sz.set) | (with_reducible apply Sz.drew) | (with_reducible apply Sz.drewN) | (with_reducible apply Sz.bytesW) | (with_reducible assumption) | (with_reducible exact Sz.base _))) h3; (try simp only [List.set_cons_zero, List.set_cons_succ, List.cons_append, List.nil_append] at H); clear h3; (try clear F); have F := H.facts; simp only [Facts, NeF, box, row, reg, cellsF, rByte, ne_eq, true_and, and_true, Nat.reduceAdd, Nat.zero_add] at F; have HP3 := Lib.hid hp3; have HL3 := Lib.hid hl3; clear hp3 hl3) | (go_at_call 40; refine (isStore_any A us.length c us _ (hr.grow (Hp.b (by repeat (first | (with_reducible exact H) | (with_reducible apply Hp.alloc) | (with_reducible apply Hp.set) | (with_reducible apply Hp.drew) | (with_reducible apply Hp.drewN) | (with_reducible apply Hp.bytesW) | (with_reducible exact Upd.here) | (with_reducible exact Upd.hereR) | (with_reducible apply Upd.there) | (with_reducible apply Sz.alloc) | (with_reducible apply Sz.set) | (with_reducible apply Sz.drew) | (with_reducible apply Sz.drewN) | (with_reducible apply Sz.bytesW) | (with_reducible assumption) | (with_reducible exact Sz.base _))))) rfl hsz (fun u hu => (hd u hu).step (Hp.b (by repeat (first | (with_reducible exact H) | (with_reducible apply Hp.alloc) | (with_reducible apply Hp.set) | (with_reducible apply Hp.drew) | (with_reducible apply Hp.drewN) | (with_reducible apply Hp.bytesW) | (with_reducible exact Upd.here) | (with_reducible exact Upd.hereR) | (with_reducible apply Upd.there) | (with_reducible apply Sz.alloc) | (with_reducible apply Sz.set) | (with_reducible apply Sz.drew) | (with_reducible apply Sz.drewN) | (with_reducible apply Sz.bytesW) | (with_reducible assumption) | (with_reducible exact Sz.base _))))) (hml.on (Hp.b (by repeat (first | (with_reducible exact H) | (with_reducible apply Hp.alloc) | (with_reducible apply Hp.set) | (with_reducible apply Hp.drew) | (with_reducible apply Hp.drewN) | (with_reducible apply Hp.bytesW) | (with_reducible exact Upd.here) | (with_reducible exact Upd.hereR) | (with_reducible apply Upd.there) | (with_reducible apply Sz.alloc) | (with_reducible apply Sz.set) | (with_reducible apply Sz.drew) | (with_reducible apply Sz.drewN) | (with_reducible apply Sz.bytesW) | (with_reducible assumption) | (with_reducible exact Sz.base _)))))).mono ?_; rintro e w4 ⟨rfl, q4⟩; rw [h1]; replace H := Hp.step (by repeat (first | (with_reducible exact H) | (with_reducible apply Hp.alloc) | (with_reducible apply Hp.set) | (with_reducible apply Hp.drew) | (with_reducible apply Hp.drewN) | (with_reducible apply Hp.bytesW) | (with_reducible exact Upd.here) | (with_reducible exact Upd.hereR) | (with_reducible apply Upd.there) | (with_reducible apply Sz.alloc) | (with_reducible apply Sz.set) | (with_reducible apply Sz.drew) | (with_reducible apply Sz.drewN) | (with_reducible apply Sz.bytesW) | (with_reducible assumption) | (with_reducible exact Sz.base _))) q4; (try simp only [List.set_cons_zero, List.set_cons_succ, List.cons_append, List.nil_append] at H); clear q4 F; have F := H.facts; simp only [Facts, NeF, box, row, reg, cellsF, rByte, ne_eq, true_and, and_true, Nat.reduceAdd, Nat.zero_add] at F))
    obtain ⟨rfl, rfl⟩ := Prod.mk.inj HR.out
    refine bodyPost_ret (v := .tuple #[.agg #[.slice A3 us.length c3], .int .i64 1]) (by simp [results, Tryd.results44, go_sem, F] <;> omega) rfl ⟨A3, c3, vs3, rfl, HP3.out, HL3.out, (by refine Hp.sel (by repeat (first | (with_reducible exact H) | (with_reducible apply Hp.alloc) | (with_reducible apply Hp.set) | (with_reducible apply Hp.drew) | (with_reducible apply Hp.drewN) | (with_reducible apply Hp.bytesW) | (with_reducible exact Upd.here) | (with_reducible exact Upd.hereR) | (with_reducible apply Upd.there) | (with_reducible apply Sz.alloc) | (with_reducible apply Sz.set) | (with_reducible apply Sz.drew) | (with_reducible apply Sz.drewN) | (with_reducible apply Sz.bytesW) | (with_reducible assumption) | (with_reducible exact Sz.base _))) ?_; (try simp only [List.set_cons_zero, List.set_cons_succ]); exact (by repeat (first | (with_reducible exact Sel.nil) | (with_reducible apply Sel.cons) | (with_reducible exact Del.here) | (with_reducible apply Del.there))))⟩
  | true =>
  by_cases hl2 : 200 < ls.length
  · have HR : Hid ((us, (1 : Int)) = (rs, rc)) := by show _ = _; rw [← HD.out, eachK, if_pos h1, if_neg (show ¬ ls.length ≤ 200 by omega)]
    have hl3 : (200 : Int) < (ls.length : Int) := by omega
    go_enter Tryd.func44, Tryd.ntmps44
    go_wp2_with (first | (go_at_call 41; refine (cloneStore_hp A us.length c us _ (hr.grow (Hp.b (by repeat (first | (with_reducible exact H) | (with_reducible apply Hp.alloc) | (with_reducible apply Hp.set) | (with_reducible apply Hp.drew) | (with_reducible apply Hp.drewN) | (with_reducible apply Hp.bytesW) | (with_reducible exact Upd.here) | (with_reducible exact Upd.hereR) | (with_reducible apply Upd.there) | (with_reducible apply Sz.alloc) | (with_reducible apply Sz.set) | (with_reducible apply Sz.drew) | (with_reducible apply Sz.drewN) | (with_reducible apply Sz.bytesW) | (with_reducible assumption) | (with_reducible exact Sz.base _))))) rfl hb20 (fun u hu => (hd u hu).step (Hp.b (by repeat (first | (with_reducible exact H) | (with_reducible apply Hp.alloc) | (with_reducible apply Hp.set) | (with_reducible apply Hp.drew) | (with_reducible apply Hp.drewN) | (with_reducible apply Hp.bytesW) | (with_reducible exact Upd.here) | (with_reducible exact Upd.hereR) | (with_reducible apply Upd.there) | (with_reducible apply Sz.alloc) | (with_reducible apply Sz.set) | (with_reducible apply Sz.drew) | (with_reducible apply Sz.drewN) | (with_reducible apply Sz.bytesW) | (with_reducible assumption) | (with_reducible exact Sz.base _))))) hvl hdl).mono ?_; rintro e w3 ⟨A3, c3, vs3, rfl, hp3, hl3, h3⟩; replace H := Hp.call (by repeat (first | (with_reducible exact H) | (with_reducible apply Hp.alloc) | (with_reducible apply Hp.set) | (with_reducible apply Hp.drew) | (with_reducible apply Hp.drewN) | (with_reducible apply Hp.bytesW) | (with_reducible exact Upd.here) | (with_reducible exact Upd.hereR) | (with_reducible apply Upd.there) | (with_reducible apply Sz.alloc) | (with_reducible apply Sz.set) | (with_reducible apply Sz.drew) | (with_reducible apply Sz.drewN) | (with_reducible apply Sz.bytesW) | (with_reducible assumption) | (with_reducible exact Sz.base _))) h3; (try simp only [List.set_cons_zero, List.set_cons_succ, List.cons_append, List.nil_append] at H); clear h3; (try clear F); have F := H.facts; simp only [Facts, NeF, box, row, reg, cellsF, rByte, ne_eq, true_and, and_true, Nat.reduceAdd, Nat.zero_add] at F; have HP3 := Lib.hid hp3; have HL3 := Lib.hid hl3; clear hp3 hl3) | (go_at_call 40; refine (isStore_any A us.length c us _ (hr.grow (Hp.b (by repeat (first | (with_reducible exact H) | (with_reducible apply Hp.alloc) | (with_reducible apply Hp.set) | (with_reducible apply Hp.drew) | (with_reducible apply Hp.drewN) | (with_reducible apply Hp.bytesW) | (with_reducible exact Upd.here) | (with_reducible exact Upd.hereR) | (with_reducible apply Upd.there) | (with_reducible apply Sz.alloc) | (with_reducible apply Sz.set) | (with_reducible apply Sz.drew) | (with_reducible apply Sz.drewN) | (with_reducible apply Sz.bytesW) | (with_reducible assumption) | (with_reducible exact Sz.base _))))) rfl hsz (fun u hu => (hd u hu).step (Hp.b (by repeat (first | (with_reducible exact H) | (with_reducible apply Hp.alloc) | (with_reducible apply Hp.set) | (with_reducible apply Hp.drew) | (with_reducible apply Hp.drewN) | (with_reducible apply Hp.bytesW) | (with_reducible exact Upd.here) | (with_reducible exact Upd.hereR) | (with_reducible apply Upd.there) | (with_reducible apply Sz.alloc) | (with_reducible apply Sz.set) | (with_reducible apply Sz.drew) | (with_reducible apply Sz.drewN) | (with_reducible apply Sz.bytesW) | (with_reducible assumption) | (with_reducible exact Sz.base _))))) (hml.on (Hp.b (by repeat (first | (with_reducible exact H) | (with_reducible apply Hp.alloc) | (with_reducible apply Hp.set) | (with_reducible apply Hp.drew) | (with_reducible apply Hp.drewN) | (with_reducible apply Hp.bytesW) | (with_reducible exact Upd.here) | (with_reducible exact Upd.hereR) | (with_reducible apply Upd.there) | (with_reducible apply Sz.alloc) | (with_reducible apply Sz.set) | (with_reducible apply Sz.drew) | (with_reducible apply Sz.drewN) | (with_reducible apply Sz.bytesW) | (with_reducible assumption) | (with_reducible exact Sz.base _)))))).mono ?_; rintro e w4 ⟨rfl, q4⟩; rw [h1]; replace H := Hp.step (by repeat (first | (with_reducible exact H) | (with_reducible apply Hp.alloc) | (with_reducible apply Hp.set) | (with_reducible apply Hp.drew) | (with_reducible apply Hp.drewN) | (with_reducible apply Hp.bytesW) | (with_reducible exact Upd.here) | (with_reducible exact Upd.hereR) | (with_reducible apply Upd.there) | (with_reducible apply Sz.alloc) | (with_reducible apply Sz.set) | (with_reducible apply Sz.drew) | (with_reducible apply Sz.drewN) | (with_reducible apply Sz.bytesW) | (with_reducible assumption) | (with_reducible exact Sz.base _))) q4; (try simp only [List.set_cons_zero, List.set_cons_succ, List.cons_append, List.nil_append] at H); clear q4 F; have F := H.facts; simp only [Facts, NeF, box, row, reg, cellsF, rByte, ne_eq, true_and, and_true, Nat.reduceAdd, Nat.zero_add] at F))
    obtain ⟨rfl, rfl⟩ := Prod.mk.inj HR.out
    refine bodyPost_ret (v := .tuple #[.agg #[.slice A3 us.length c3], .int .i64 1]) (by simp [results, Tryd.results44, go_sem, F] <;> omega) rfl ⟨A3, c3, vs3, rfl, HP3.out, HL3.out, (by refine Hp.sel (by repeat (first | (with_reducible exact H) | (with_reducible apply Hp.alloc) | (with_reducible apply Hp.set) | (with_reducible apply Hp.drew) | (with_reducible apply Hp.drewN) | (with_reducible apply Hp.bytesW) | (with_reducible exact Upd.here) | (with_reducible exact Upd.hereR) | (with_reducible apply Upd.there) | (with_reducible apply Sz.alloc) | (with_reducible apply Sz.set) | (with_reducible apply Sz.drew) | (with_reducible apply Sz.drewN) | (with_reducible apply Sz.bytesW) | (with_reducible assumption) | (with_reducible exact Sz.base _))) ?_; (try simp only [List.set_cons_zero, List.set_cons_succ]); exact (by repeat (first | (with_reducible exact Sel.nil) | (with_reducible apply Sel.cons) | (with_reducible exact Del.here) | (with_reducible apply Del.there))))⟩
  have hl3 : ¬ (200 : Int) < (ls.length : Int) := by omega
  have HD1 : Hid ((if 0 ≤ ixP (hasP s) us 0 then (us.modify (ixP (hasP s) us 0).toNat (chE ls what), 0) else (us, 2)) = (rs, rc)) := by show _ = _; rw [← HD.out, eachK, if_pos h1, if_pos (show ls.length ≤ 200 by omega)]
  clear HD
  have hri := store_rises h1
  rcases ixP_spec (hasP s) us 0 with ⟨hx, hall⟩ | ⟨i, hi, hx, hhit, -⟩
  · have HR : Hid ((us, (2 : Int)) = (rs, rc)) := by show _ = _; rw [← HD1.out, hx, if_neg (by omega)]
    have hh := bsE_miss hall
    clear hall
    go_enter Tryd.func44, Tryd.ntmps44
    go_wp2_with (first | (go_at_call 41; refine (cloneStore_hp A us.length c us _ (hr.grow (Hp.b (by repeat (first | (with_reducible exact H) | (with_reducible apply Hp.alloc) | (with_reducible apply Hp.set) | (with_reducible apply Hp.drew) | (with_reducible apply Hp.drewN) | (with_reducible apply Hp.bytesW) | (with_reducible exact Upd.here) | (with_reducible exact Upd.hereR) | (with_reducible apply Upd.there) | (with_reducible apply Sz.alloc) | (with_reducible apply Sz.set) | (with_reducible apply Sz.drew) | (with_reducible apply Sz.drewN) | (with_reducible apply Sz.bytesW) | (with_reducible assumption) | (with_reducible exact Sz.base _))))) rfl hb20 (fun u hu => (hd u hu).step (Hp.b (by repeat (first | (with_reducible exact H) | (with_reducible apply Hp.alloc) | (with_reducible apply Hp.set) | (with_reducible apply Hp.drew) | (with_reducible apply Hp.drewN) | (with_reducible apply Hp.bytesW) | (with_reducible exact Upd.here) | (with_reducible exact Upd.hereR) | (with_reducible apply Upd.there) | (with_reducible apply Sz.alloc) | (with_reducible apply Sz.set) | (with_reducible apply Sz.drew) | (with_reducible apply Sz.drewN) | (with_reducible apply Sz.bytesW) | (with_reducible assumption) | (with_reducible exact Sz.base _))))) hvl hdl).mono ?_; rintro e w3 ⟨A3, c3, vs3, rfl, hp3, hl3, h3⟩; replace H := Hp.call (by repeat (first | (with_reducible exact H) | (with_reducible apply Hp.alloc) | (with_reducible apply Hp.set) | (with_reducible apply Hp.drew) | (with_reducible apply Hp.drewN) | (with_reducible apply Hp.bytesW) | (with_reducible exact Upd.here) | (with_reducible exact Upd.hereR) | (with_reducible apply Upd.there) | (with_reducible apply Sz.alloc) | (with_reducible apply Sz.set) | (with_reducible apply Sz.drew) | (with_reducible apply Sz.drewN) | (with_reducible apply Sz.bytesW) | (with_reducible assumption) | (with_reducible exact Sz.base _))) h3; (try simp only [List.set_cons_zero, List.set_cons_succ, List.cons_append, List.nil_append] at H); clear h3; (try clear F); have F := H.facts; simp only [Facts, NeF, box, row, reg, cellsF, rByte, ne_eq, true_and, and_true, Nat.reduceAdd, Nat.zero_add] at F; have HP3 := Lib.hid hp3; have HL3 := Lib.hid hl3; clear hp3 hl3) | (go_at_call 40; refine (isStore_any A us.length c us _ (hr.grow (Hp.b (by repeat (first | (with_reducible exact H) | (with_reducible apply Hp.alloc) | (with_reducible apply Hp.set) | (with_reducible apply Hp.drew) | (with_reducible apply Hp.drewN) | (with_reducible apply Hp.bytesW) | (with_reducible exact Upd.here) | (with_reducible exact Upd.hereR) | (with_reducible apply Upd.there) | (with_reducible apply Sz.alloc) | (with_reducible apply Sz.set) | (with_reducible apply Sz.drew) | (with_reducible apply Sz.drewN) | (with_reducible apply Sz.bytesW) | (with_reducible assumption) | (with_reducible exact Sz.base _))))) rfl hsz (fun u hu => (hd u hu).step (Hp.b (by repeat (first | (with_reducible exact H) | (with_reducible apply Hp.alloc) | (with_reducible apply Hp.set) | (with_reducible apply Hp.drew) | (with_reducible apply Hp.drewN) | (with_reducible apply Hp.bytesW) | (with_reducible exact Upd.here) | (with_reducible exact Upd.hereR) | (with_reducible apply Upd.there) | (with_reducible apply Sz.alloc) | (with_reducible apply Sz.set) | (with_reducible apply Sz.drew) | (with_reducible apply Sz.drewN) | (with_reducible apply Sz.bytesW) | (with_reducible assumption) | (with_reducible exact Sz.base _))))) (hml.on (Hp.b (by repeat (first | (with_reducible exact H) | (with_reducible apply Hp.alloc) | (with_reducible apply Hp.set) | (with_reducible apply Hp.drew) | (with_reducible apply Hp.drewN) | (with_reducible apply Hp.bytesW) | (with_reducible exact Upd.here) | (with_reducible exact Upd.hereR) | (with_reducible apply Upd.there) | (with_reducible apply Sz.alloc) | (with_reducible apply Sz.set) | (with_reducible apply Sz.drew) | (with_reducible apply Sz.drewN) | (with_reducible apply Sz.bytesW) | (with_reducible assumption) | (with_reducible exact Sz.base _)))))).mono ?_; rintro e w4 ⟨rfl, q4⟩; rw [h1]; replace H := Hp.step (by repeat (first | (with_reducible exact H) | (with_reducible apply Hp.alloc) | (with_reducible apply Hp.set) | (with_reducible apply Hp.drew) | (with_reducible apply Hp.drewN) | (with_reducible apply Hp.bytesW) | (with_reducible exact Upd.here) | (with_reducible exact Upd.hereR) | (with_reducible apply Upd.there) | (with_reducible apply Sz.alloc) | (with_reducible apply Sz.set) | (with_reducible apply Sz.drew) | (with_reducible apply Sz.drewN) | (with_reducible apply Sz.bytesW) | (with_reducible assumption) | (with_reducible exact Sz.base _))) q4; (try simp only [List.set_cons_zero, List.set_cons_succ, List.cons_append, List.nil_append] at H); clear q4 F; have F := H.facts; simp only [Facts, NeF, box, row, reg, cellsF, rByte, ne_eq, true_and, and_true, Nat.reduceAdd, Nat.zero_add] at F) | (go_at_call 72; refine (entryIndex_any A us.length c us s _ (hr.grow (Hp.b (by repeat (first | (with_reducible exact H) | (with_reducible apply Hp.alloc) | (with_reducible apply Hp.set) | (with_reducible apply Hp.drew) | (with_reducible apply Hp.drewN) | (with_reducible apply Hp.bytesW) | (with_reducible exact Upd.here) | (with_reducible exact Upd.hereR) | (with_reducible apply Upd.there) | (with_reducible apply Sz.alloc) | (with_reducible apply Sz.set) | (with_reducible apply Sz.drew) | (with_reducible apply Sz.drewN) | (with_reducible apply Sz.bytesW) | (with_reducible assumption) | (with_reducible exact Sz.base _))))) rfl hb20 hri).mono ?_; rintro e w1 ⟨rfl, q1⟩; rw [hh]; replace H := Hp.step (by repeat (first | (with_reducible exact H) | (with_reducible apply Hp.alloc) | (with_reducible apply Hp.set) | (with_reducible apply Hp.drew) | (with_reducible apply Hp.drewN) | (with_reducible apply Hp.bytesW) | (with_reducible exact Upd.here) | (with_reducible exact Upd.hereR) | (with_reducible apply Upd.there) | (with_reducible apply Sz.alloc) | (with_reducible apply Sz.set) | (with_reducible apply Sz.drew) | (with_reducible apply Sz.drewN) | (with_reducible apply Sz.bytesW) | (with_reducible assumption) | (with_reducible exact Sz.base _))) q1; (try simp only [List.set_cons_zero, List.set_cons_succ, List.cons_append, List.nil_append] at H); clear q1 F; have F := H.facts; simp only [Facts, NeF, box, row, reg, cellsF, rByte, ne_eq, true_and, and_true, Nat.reduceAdd, Nat.zero_add] at F))
    obtain ⟨rfl, rfl⟩ := Prod.mk.inj HR.out
    refine bodyPost_ret (v := .tuple #[.agg #[.slice A3 us.length c3], .int .i64 2]) (by simp [results, Tryd.results44, go_sem, F] <;> omega) rfl ⟨A3, c3, vs3, rfl, HP3.out, HL3.out, (by refine Hp.sel (by repeat (first | (with_reducible exact H) | (with_reducible apply Hp.alloc) | (with_reducible apply Hp.set) | (with_reducible apply Hp.drew) | (with_reducible apply Hp.drewN) | (with_reducible apply Hp.bytesW) | (with_reducible exact Upd.here) | (with_reducible exact Upd.hereR) | (with_reducible apply Upd.there) | (with_reducible apply Sz.alloc) | (with_reducible apply Sz.set) | (with_reducible apply Sz.drew) | (with_reducible apply Sz.drewN) | (with_reducible apply Sz.bytesW) | (with_reducible assumption) | (with_reducible exact Sz.base _))) ?_; (try simp only [List.set_cons_zero, List.set_cons_succ]); exact (by repeat (first | (with_reducible exact Sel.nil) | (with_reducible apply Sel.cons) | (with_reducible exact Del.here) | (with_reducible apply Del.there))))⟩
  rw [Nat.zero_add] at hx
  have he : us[i].path = s := eqB_iff.1 hhit
  obtain ⟨hat, hh⟩ := bsE_at hri hi he
  have HR : Hid (us.set i (chE ls what us[i]) = rs ∧ (0 : Int) = rc) := by
    refine Prod.mk.inj ?_
    rw [← HD1.out, hx, if_pos (by omega), Int.toNat_natCast, modify_set hi]
  have HOK := Lib.hid ((ok_entry h1).2 us[i] (List.getElem_mem hi))
  clear hhit HD1 he hx
  go_enter Tryd.func44, Tryd.ntmps44
  go_wp2_with (first | (go_at_call 41; refine (cloneStore_hp A us.length c us _ (hr.grow (Hp.b (by repeat (first | (with_reducible exact H) | (with_reducible apply Hp.alloc) | (with_reducible apply Hp.set) | (with_reducible apply Hp.drew) | (with_reducible apply Hp.drewN) | (with_reducible apply Hp.bytesW) | (with_reducible exact Upd.here) | (with_reducible exact Upd.hereR) | (with_reducible apply Upd.there) | (with_reducible apply Sz.alloc) | (with_reducible apply Sz.set) | (with_reducible apply Sz.drew) | (with_reducible apply Sz.drewN) | (with_reducible apply Sz.bytesW) | (with_reducible assumption) | (with_reducible exact Sz.base _))))) rfl hb20 (fun u hu => (hd u hu).step (Hp.b (by repeat (first | (with_reducible exact H) | (with_reducible apply Hp.alloc) | (with_reducible apply Hp.set) | (with_reducible apply Hp.drew) | (with_reducible apply Hp.drewN) | (with_reducible apply Hp.bytesW) | (with_reducible exact Upd.here) | (with_reducible exact Upd.hereR) | (with_reducible apply Upd.there) | (with_reducible apply Sz.alloc) | (with_reducible apply Sz.set) | (with_reducible apply Sz.drew) | (with_reducible apply Sz.drewN) | (with_reducible apply Sz.bytesW) | (with_reducible assumption) | (with_reducible exact Sz.base _))))) hvl hdl).mono ?_; rintro e w3 ⟨A3, c3, vs3, rfl, hp3, hl3, h3⟩; replace H := Hp.call (by repeat (first | (with_reducible exact H) | (with_reducible apply Hp.alloc) | (with_reducible apply Hp.set) | (with_reducible apply Hp.drew) | (with_reducible apply Hp.drewN) | (with_reducible apply Hp.bytesW) | (with_reducible exact Upd.here) | (with_reducible exact Upd.hereR) | (with_reducible apply Upd.there) | (with_reducible apply Sz.alloc) | (with_reducible apply Sz.set) | (with_reducible apply Sz.drew) | (with_reducible apply Sz.drewN) | (with_reducible apply Sz.bytesW) | (with_reducible assumption) | (with_reducible exact Sz.base _))) h3; (try simp only [List.set_cons_zero, List.set_cons_succ, List.cons_append, List.nil_append] at H); clear h3; (try clear F); have F := H.facts; simp only [Facts, NeF, box, row, reg, cellsF, rByte, ne_eq, true_and, and_true, Nat.reduceAdd, Nat.zero_add] at F; have HP3 := Lib.hid hp3; have HL3 := Lib.hid hl3; clear hp3 hl3) | (go_at_call 40; refine (isStore_any A us.length c us _ (hr.grow (Hp.b (by repeat (first | (with_reducible exact H) | (with_reducible apply Hp.alloc) | (with_reducible apply Hp.set) | (with_reducible apply Hp.drew) | (with_reducible apply Hp.drewN) | (with_reducible apply Hp.bytesW) | (with_reducible exact Upd.here) | (with_reducible exact Upd.hereR) | (with_reducible apply Upd.there) | (with_reducible apply Sz.alloc) | (with_reducible apply Sz.set) | (with_reducible apply Sz.drew) | (with_reducible apply Sz.drewN) | (with_reducible apply Sz.bytesW) | (with_reducible assumption) | (with_reducible exact Sz.base _))))) rfl hsz (fun u hu => (hd u hu).step (Hp.b (by repeat (first | (with_reducible exact H) | (with_reducible apply Hp.alloc) | (with_reducible apply Hp.set) | (with_reducible apply Hp.drew) | (with_reducible apply Hp.drewN) | (with_reducible apply Hp.bytesW) | (with_reducible exact Upd.here) | (with_reducible exact Upd.hereR) | (with_reducible apply Upd.there) | (with_reducible apply Sz.alloc) | (with_reducible apply Sz.set) | (with_reducible apply Sz.drew) | (with_reducible apply Sz.drewN) | (with_reducible apply Sz.bytesW) | (with_reducible assumption) | (with_reducible exact Sz.base _))))) (hml.on (Hp.b (by repeat (first | (with_reducible exact H) | (with_reducible apply Hp.alloc) | (with_reducible apply Hp.set) | (with_reducible apply Hp.drew) | (with_reducible apply Hp.drewN) | (with_reducible apply Hp.bytesW) | (with_reducible exact Upd.here) | (with_reducible exact Upd.hereR) | (with_reducible apply Upd.there) | (with_reducible apply Sz.alloc) | (with_reducible apply Sz.set) | (with_reducible apply Sz.drew) | (with_reducible apply Sz.drewN) | (with_reducible apply Sz.bytesW) | (with_reducible assumption) | (with_reducible exact Sz.base _)))))).mono ?_; rintro e w4 ⟨rfl, q4⟩; rw [h1]; replace H := Hp.step (by repeat (first | (with_reducible exact H) | (with_reducible apply Hp.alloc) | (with_reducible apply Hp.set) | (with_reducible apply Hp.drew) | (with_reducible apply Hp.drewN) | (with_reducible apply Hp.bytesW) | (with_reducible exact Upd.here) | (with_reducible exact Upd.hereR) | (with_reducible apply Upd.there) | (with_reducible apply Sz.alloc) | (with_reducible apply Sz.set) | (with_reducible apply Sz.drew) | (with_reducible apply Sz.drewN) | (with_reducible apply Sz.bytesW) | (with_reducible assumption) | (with_reducible exact Sz.base _))) q4; (try simp only [List.set_cons_zero, List.set_cons_succ, List.cons_append, List.nil_append] at H); clear q4 F; have F := H.facts; simp only [Facts, NeF, box, row, reg, cellsF, rByte, ne_eq, true_and, and_true, Nat.reduceAdd, Nat.zero_add] at F))
  refine (entryIndex_any A us.length c us s _ (hr.grow (Hp.b (by repeat (first | (with_reducible exact H) | (with_reducible apply Hp.alloc) | (with_reducible apply Hp.set) | (with_reducible apply Hp.drew) | (with_reducible apply Hp.drewN) | (with_reducible apply Hp.bytesW) | (with_reducible exact Upd.here) | (with_reducible exact Upd.hereR) | (with_reducible apply Upd.there) | (with_reducible apply Sz.alloc) | (with_reducible apply Sz.set) | (with_reducible apply Sz.drew) | (with_reducible apply Sz.drewN) | (with_reducible apply Sz.bytesW) | (with_reducible assumption) | (with_reducible exact Sz.base _))))) rfl hb20 hri).mono ?_
  rintro e w1 ⟨rfl, q1⟩
  rw [hh, hat]
  replace H := Hp.step (by repeat (first | (with_reducible exact H) | (with_reducible apply Hp.alloc) | (with_reducible apply Hp.set) | (with_reducible apply Hp.drew) | (with_reducible apply Hp.drewN) | (with_reducible apply Hp.bytesW) | (with_reducible exact Upd.here) | (with_reducible exact Upd.hereR) | (with_reducible apply Upd.there) | (with_reducible apply Sz.alloc) | (with_reducible apply Sz.set) | (with_reducible apply Sz.drew) | (with_reducible apply Sz.drewN) | (with_reducible apply Sz.bytesW) | (with_reducible assumption) | (with_reducible exact Sz.base _))) q1; (try simp only [List.set_cons_zero, List.set_cons_succ, List.cons_append, List.nil_append] at H); clear q1 F hh hat h1 hri; have F := H.facts; simp only [Facts, NeF, box, row, reg, cellsF, rByte, ne_eq, true_and, and_true, Nat.reduceAdd, Nat.zero_add] at F
  have hi3 : i < vs3.length := by rw [HL3.out]; exact hi
  have hpe := plE_at HP3.out i hi3 hi
  have hpf := congrArg Entry.first hpe
  have hpv := congrArg (fun e => e.vs.length) hpe
  have hpq : vs3[i].vs.all verOk = us[i].vs.all verOk := by
    have h8 := congrArg (fun e => e.vs.all verOk) hpe
    simp only [plE, List.all_map] at h8
    exact h8
  simp only [plE, List.length_map] at hpf hpv
  have HPE := Lib.hid hpe; clear hpe
  obtain ⟨path, first, vs, va, vc, HE3⟩ : ∃ path first vs va vc, Hid (vs3[i] = ⟨path, first, vs, va, vc⟩) := ⟨_, _, _, _, _, Lib.hid rfl⟩
  rw [HE3.out] at hpf hpv hpq HPE
  dsimp only at hpf hpv hpq
  obtain ⟨N, H2, HCL0⟩ := stoE_open (D := [box w3.heap.size 26 [.slice A3 us.length c3], box (w.heap.size + 1) 26 [.slice none 0 0], box w.heap.size 26 [.slice A us.length c]]) (by refine Hp.sel (by repeat (first | (with_reducible exact H) | (with_reducible apply Hp.alloc) | (with_reducible apply Hp.set) | (with_reducible apply Hp.drew) | (with_reducible apply Hp.drewN) | (with_reducible apply Hp.bytesW) | (with_reducible exact Upd.here) | (with_reducible exact Upd.hereR) | (with_reducible apply Upd.there) | (with_reducible apply Sz.alloc) | (with_reducible apply Sz.set) | (with_reducible apply Sz.drew) | (with_reducible apply Sz.drewN) | (with_reducible apply Sz.bytesW) | (with_reducible assumption) | (with_reducible exact Sz.base _))) ?_; (try simp only [List.set_cons_zero, List.set_cons_succ]); exact (by repeat (first | (with_reducible exact Sel.nil) | (with_reducible apply Sel.cons) | (with_reducible exact Del.here) | (with_reducible apply Del.there)))) hi3 HE3.out
  have HCL := Lib.hid HCL0; clear HCL0
  replace H := H2; clear H2
  have hv1 := HOK.out.2.2.1
  obtain ⟨g, rfl⟩ := rowGm (H.rowM List.mem_cons_self) (by omega)
  obtain ⟨b3, rfl⟩ := rowGm (H.rowM (List.mem_cons_of_mem _ List.mem_cons_self)) (by omega)
  simp only [List.cons_append, List.nil_append] at H
  have hi9 : (i : Int) < (us.length : Int) := by omega
  have hi8 : (0 : Int) ≤ (i : Int) := by omega
  have hfb : 1 ≤ first ∧ first ≤ 1000000 := by rw [hpf]; exact HOK.out.2.1
  have hvb : vs.length ≤ 8 := by rw [hpv]; exact HOK.out.2.2.2.1
  have HQ : Hid (∀ v ∈ vs, v.dead = true → v.gone = false) := fun v hv => ver_quiet (List.all_eq_true.1 (hpq.trans HOK.out.2.2.2.2) v hv)
  clear hpf hpv hpq hv1 F
  have F := H.facts; simp only [Facts, NeF, box, row, reg, cellsF, rByte, ne_eq, true_and, and_true, Nat.reduceAdd, Nat.zero_add] at F
  go_wp2_with fail
  have HH := Lib.hid H; clear H
  go_loopw [42] (fun i wr => ∃ (k : Nat) (ds : List Ver), k ≤ ls.length ∧ i = .int .i64 k ∧ Hid (ds = chV (fun j => hasI (ls.take k) (first + (j : Int))) (actV what) vs) ∧ Hid (Hp w wr ([row 71 4 (.slice (some ⟨g, 0, none⟩) vs.length vc) vs.length (ds.flatMap encVer), row 62 3 (.slice (some ⟨b3, 0, none⟩) us.length c3) us.length (vs3.flatMap encEntry), box w3.heap.size 26 [.slice (some ⟨b3, 0, none⟩) us.length c3], box (w.heap.size + 1) 26 [.slice none 0 0], box w.heap.size 26 [.slice A us.length c]] ++ (ds.flatMap verF ++ N)))) (fun i _ => ls.length - (intOf i).toNat)
  case atStart =>
    have H := HH.out
    exact ⟨0, vs, Nat.zero_le _, rfl, (chV_none (fun j _ => by simp [hasI])).symm, Lib.hid (show Hp w _ (_ :: _ :: _ :: _ :: _ :: (vs.flatMap verF ++ N)) from (by repeat (first | (with_reducible exact H) | (with_reducible apply Hp.alloc) | (with_reducible apply Hp.set) | (with_reducible apply Hp.drew) | (with_reducible apply Hp.drewN) | (with_reducible apply Hp.bytesW) | (with_reducible exact Upd.here) | (with_reducible exact Upd.hereR) | (with_reducible apply Upd.there) | (with_reducible apply Sz.alloc) | (with_reducible apply Sz.set) | (with_reducible apply Sz.drew) | (with_reducible apply Sz.drewN) | (with_reducible apply Sz.bytesW) | (with_reducible assumption) | (with_reducible exact Sz.base _))))⟩
  case round =>
    clear HH F
    obtain ⟨k, ds, hk, rfl, HV, HP⟩ := hrel
    have H := HP.out
    simp only [List.cons_append, List.nil_append] at H
    have F := H.facts; simp only [Facts, NeF, box, row, reg, cellsF, rByte, ne_eq, true_and, and_true, Nat.reduceAdd, Nat.zero_add] at F
    have hce := Rd.entAt (own_rdn (H.rowM (t := 62) (k := 3) (v := .slice (some ⟨b3, 0, none⟩) us.length c3) (n := us.length) (xs := vs3.flatMap encEntry) (by repeat (first | (with_reducible exact List.mem_cons_self) | (with_reducible apply List.mem_cons_of_mem))))) HL3.out (k := i) hi3 rfl _ (Below.refl _ _); simp only [Nat.zero_add, HE3.out] at hce; obtain ⟨c0, c1, c2⟩ := hce
    have HDL : Hid (ds.length = vs.length) := by show _ = _; rw [HV.out, chV_len]
    by_cases hlt : k < ls.length
    · obtain ⟨bl, ol, rfl, hbl, -⟩ := hrl.elem encInt_len rfl hlt
      have l0 := Rd.intAt hrl rfl (k := k) hlt wr H.b
      have hk1 : (k : Int) < (ls.length : Int) := by omega
      have hk0 : (0 : Int) ≤ (k : Int) := by omega
      have hbw : bl < wr.heap.size := Nat.lt_of_lt_of_le hbl H.b.size
      have HK1 : Hid (k + 1 ≤ ls.length ∧ ls.length - (k + 1) < ls.length - k) := ⟨by omega, by omega⟩
      have HTK : Hid (∀ y, hasI (ls.take (k + 1)) y = (hasI (ls.take k) y || decide (y = ls[k]))) := by
        intro y
        rw [List.take_succ_eq_append_getElem hlt]
        rw [Bool.eq_iff_iff, hasI_iff, Bool.or_eq_true, hasI_iff, decide_eq_true_eq, List.mem_append, List.mem_singleton]
      generalize ls[k] = x at *
      obtain ⟨last, hla⟩ : ∃ last : Int, last = first + (vs.length : Int) - 1 := ⟨_, rfl⟩
      have HLA := Lib.hid hla
      have hw1 : IntKind.i64.wrap (first + (vs.length : Int)) = first + (vs.length : Int) := by rw [IntKind.wrap_i64]; omega
      have hw2 : IntKind.i64.wrap (first + (vs.length : Int) - 1) = last := by rw [IntKind.wrap_i64]; omega
      clear hla
      cases hin : inR x first last with
      | false =>
        have HN : Hid (ds = chV (fun j => hasI (ls.take (k + 1)) (first + (j : Int))) (actV what) vs) := by
          show _ = _
          rw [HV.out]
          refine chV_congr fun j hj => ?_
          rw [HTK.out]
          have hne : ¬ first + (j : Int) = x := by
            intro e
            have h7 : inR x first last = true := inR_true.2 ⟨by omega, by have := HLA.out; omega⟩
            rw [hin] at h7; cases h7
          rw [decide_eq_false hne, Bool.or_false]
        go_wp2_with fail
        go_region_with (go_at_call 67; refine (within_any _ _ _ _).mono ?_; rintro e w' ⟨rfl, rfl⟩; rw [hin])
        all_goals
          go_wp2_with fail
          go_roundw
          case rel => exact ⟨k + 1, ds, HK1.out.1, by go_num, HN, Lib.hid (show Hp w _ (_ :: _ :: _ :: _ :: _ :: (ds.flatMap verF ++ N)) from (by repeat (first | (with_reducible exact H) | (with_reducible apply Hp.alloc) | (with_reducible apply Hp.set) | (with_reducible apply Hp.drew) | (with_reducible apply Hp.drewN) | (with_reducible apply Hp.bytesW) | (with_reducible exact Upd.here) | (with_reducible exact Upd.hereR) | (with_reducible apply Upd.there) | (with_reducible apply Sz.alloc) | (with_reducible apply Sz.set) | (with_reducible apply Sz.drew) | (with_reducible apply Sz.drewN) | (with_reducible apply Sz.bytesW) | (with_reducible assumption) | (with_reducible exact Sz.base _))))⟩
          case measure => have := HK1.out.2; simp [intOf]; omega
      | true =>
        obtain ⟨hi1, hi2⟩ := inR_true.1 hin
        obtain ⟨m, hm9⟩ := Int.eq_ofNat_of_zero_le (show 0 ≤ x - first by omega)
        have hmv : m < vs.length := by have := HLA.out; omega
        have hwm : IntKind.i64.wrap (x - first) = (m : Int) := by rw [IntKind.wrap_i64]; omega
        have hm1 : (m : Int) < (vs.length : Int) := by omega
        have hm0 : (0 : Int) ≤ (m : Int) := by omega
        have HMD : Hid (m < ds.length) := by show _ < _; rw [HDL.out]; exact hmv
        have HN : Hid (ds.set m (f (ds[m]'HMD.out)) = chV (fun j => hasI (ls.take (k + 1)) (first + (j : Int))) (actV what) vs) := by
          have hv := HV.out
          subst hv
          show _ = _
          rw [HFA.out _ (chV_quiet HQ.out HMD.out)]
          refine chV_set (actV_twice what) hmv fun j => ?_
          rw [HTK.out]
          congr 1
          exact decide_eq_decide.2 (by omega)
        have HVF : Hid (verF (f (ds[m]'HMD.out)) = verF (ds[m]'HMD.out) ∨ verF (f (ds[m]'HMD.out)) = [rByte none 0 []]) := by
          have hv := HV.out
          subst hv
          rw [HFA.out _ (chV_quiet HQ.out HMD.out)]
          exact act_verF what _
        have hcall := fun (W : World) (M : List Ent) (h : Hp w W (_ :: M)) => HCLO.out w W g vs.length vc m ds M HMD.out HDL.out h
        have HCALL := Lib.hid hcall; clear hcall
        clear hm9 hi1 hi2
        go_wp2_with fail
        go_region_with (go_at_call 67; refine (within_any _ _ _ _).mono ?_; rintro e w' ⟨rfl, rfl⟩; rw [hin])
        all_goals
          go_wp2_with fail
          go_region_with (go_at_fn gf; refine (HCALL.out _ _ (by repeat (first | (with_reducible exact H) | (with_reducible apply Hp.alloc) | (with_reducible apply Hp.set) | (with_reducible apply Hp.drew) | (with_reducible apply Hp.drewN) | (with_reducible apply Hp.bytesW) | (with_reducible exact Upd.here) | (with_reducible exact Upd.hereR) | (with_reducible apply Upd.there) | (with_reducible apply Sz.alloc) | (with_reducible apply Sz.set) | (with_reducible apply Sz.drew) | (with_reducible apply Sz.drewN) | (with_reducible apply Sz.bytesW) | (with_reducible assumption) | (with_reducible exact Sz.base _)))).mono ?_; rintro e w5 ⟨rfl, h5⟩)
          all_goals
            replace H := h5; clear h5 F c0 c1 c2
            have F := H.facts; simp only [Facts, NeF, box, row, reg, cellsF, rByte, ne_eq, true_and, and_true, Nat.reduceAdd, Nat.zero_add] at F
            go_wp2_with fail
            go_roundw
            case rel =>
              refine ⟨k + 1, ds.set m (f (ds[m]'HMD.out)), HK1.out.1, by go_num, HN, Lib.hid ?_⟩
              show Hp w _ ([_, _, _, _, _] ++ ((ds.set m (f (ds[m]'HMD.out))).flatMap verF ++ N))
              refine Hp.verSet HMD.out HVF.out ?_
              show Hp w _ (_ :: _ :: _ :: _ :: _ :: (ds.flatMap verF ++ N))
              exact (by repeat (first | (with_reducible exact H) | (with_reducible apply Hp.alloc) | (with_reducible apply Hp.set) | (with_reducible apply Hp.drew) | (with_reducible apply Hp.drewN) | (with_reducible apply Hp.bytesW) | (with_reducible exact Upd.here) | (with_reducible exact Upd.hereR) | (with_reducible apply Upd.there) | (with_reducible apply Sz.alloc) | (with_reducible apply Sz.set) | (with_reducible apply Sz.drew) | (with_reducible apply Sz.drewN) | (with_reducible apply Sz.bytesW) | (with_reducible assumption) | (with_reducible exact Sz.base _)))
            case measure => have := HK1.out.2; simp [intOf]; omega
    · have hkn : k = ls.length := by omega
      have hk1 : ¬ (k : Int) < (ls.length : Int) := by omega
      have HG : Hid (ds = chV (fun j => hasI ls (first + (j : Int))) (actV what) vs) := by
        show _ = _
        rw [HV.out, List.take_of_length_le (by omega)]
      clear hkn
      go_wp2_with fail
      have HRL : Hid (rs.length = us.length) := by show _ = _; rw [← HR.out.1, List.length_set]
      have HPR : Hid ((vs3.set i ⟨path, first, ds, some ⟨g, 0, none⟩, vc⟩).map plE = rs.map plE) := by
        show _ = _
        rw [← HR.out.1, List.map_set, List.map_set, HP3.out, chE_pl, ← HPE.out, ← chE_pl]
        rw [HG.out]; rfl
      obtain rfl := HR.out.2
      rw [HRL.out]
      refine bodyPost_ret (v := .tuple #[.agg #[.slice (some ⟨b3, 0, none⟩) us.length c3], .int .i64 0]) (by simp [results, Tryd.results44, go_sem, F] <;> omega) rfl ⟨some ⟨b3, 0, none⟩, c3, rfl, vs3.set i ⟨path, first, ds, some ⟨g, 0, none⟩, vc⟩, HPR.out, by rw [List.length_set, HL3.out], ?_⟩
      refine Hp.sel (HCL.out ds [] _ HDL.out (Hp.sel (by repeat (first | (with_reducible exact H) | (with_reducible apply Hp.alloc) | (with_reducible apply Hp.set) | (with_reducible apply Hp.drew) | (with_reducible apply Hp.drewN) | (with_reducible apply Hp.bytesW) | (with_reducible exact Upd.here) | (with_reducible exact Upd.hereR) | (with_reducible apply Upd.there) | (with_reducible apply Sz.alloc) | (with_reducible apply Sz.set) | (with_reducible apply Sz.drew) | (with_reducible apply Sz.drewN) | (with_reducible apply Sz.bytesW) | (with_reducible assumption) | (with_reducible exact Sz.base _))) ?_)) (Sel.cons Del.here Sel.nil)
      show Sel _ (_ :: _ :: (ds.flatMap verF ++ N))
      (repeat (first | (with_reducible exact Sel.nil) | (with_reducible apply Sel.cons) | (with_reducible exact Del.here) | (with_reducible apply Del.there))); refine Sel.tl ?_; (repeat (first | (with_reducible exact Tl.here) | (with_reducible apply Tl.there)))
end Go.Proofs.YtklmcbabpncfmaaDoor

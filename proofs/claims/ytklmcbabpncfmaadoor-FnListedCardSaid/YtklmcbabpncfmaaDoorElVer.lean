/- Elements Ver (each with a row of bytes): data, and contracts of the statements' own helpers over them. No condition. -/
import Derived.Test.YtklmcbabpncfmaaDoorEnByte
import Derived.Test.YtklmcbabpncfmaaDoorNest
import Derived.Test.YtklmcbabpncfmaaDoorMark
import Derived.Deep.QuietTactic
import Derived.BigQuiet
import Derived.Deep.RegionHeld3
namespace Go.Proofs.YtklmcbabpncfmaaDoor
open Go.RowKit
set_option linter.unusedVariables false
set_option linter.unusedSimpArgs false
structure Ver where
  data : List UInt8
  da : Option Addr
  dc : Nat
  made : Int
  gone : Bool
  dead : Bool
def encVer (x : Ver) : List Value := [.slice x.da x.data.length x.dc, .int .i64 x.made, .bool x.gone, .bool x.dead]
theorem encVer_len (x : Ver) : (encVer x).length = 4 := rfl
abbrev valVer (x : Ver) : Value := .agg #[.slice x.da x.data.length x.dc, .int .i64 x.made, .bool x.gone, .bool x.dead]
/-- What a version holds, without where its bytes lie. -/
def plV (x : Ver) : Ver := { x with da := none, dc := 0 }
/-- The bytes of a version read, and lie at lo or above. -/
def DV (lo : Nat) (w : World) (x : Ver) : Prop := Rd w w.heap.size 1 x.da x.data.length x.dc (x.data.flatMap encByte) ∧ ∀ a, x.da = some a → lo ≤ a.block
theorem DV.step {lo : Nat} {w w' : World} {x : Ver} (h : DV lo w x) (hb : Below w.heap.size w w') : DV lo w' x := ⟨h.1.grow hb, h.2⟩
theorem DV.set {lo g o : Nat} {w : World} {x : Ver} {v : Value} (h : DV lo w x) (hg : g < lo) : DV lo (w.setCell ⟨g, o, none⟩ v) x := by
  refine ⟨⟨h.1.1, h.1.2.1, h.1.2.2.1, fun h0 => ?_⟩, h.2⟩
  obtain ⟨b, off, e, hb, hc⟩ := h.1.2.2.2 h0
  have hl := h.2 _ e
  have hsz : (w.setCell ⟨g, o, none⟩ v).heap.size = w.heap.size := by simp [World.setCell]
  refine ⟨b, off, e, by rw [hsz]; exact hb, fun j u hu => ?_⟩
  have hl2 : lo ≤ b := hl
  exact (World.cell?_of_block (w := w) (a := ⟨b, off + j, none⟩) (Below.heap_setCell w ⟨g, o, none⟩ v b (show b ≠ g by omega))).trans (hc j u hu)
theorem DV.zero {lo : Nat} {w : World} {x : Ver} (h : DV lo w x) : DV 0 w x := ⟨h.1, fun _ _ => Nat.zero_le _⟩
def szVer (x : Ver) : Nat := x.data.length
def sumVer (us : List Ver) : Nat := (us.map szVer).sum
theorem sumVer_take {us : List Ver} {k : Nat} (h : k < us.length) : sumVer (us.take (k + 1)) = sumVer (us.take k) + szVer us[k] := by
  rw [sumVer, sumVer, List.take_succ_eq_append_getElem h, List.map_append, List.sum_append, List.map_cons, List.map_nil, List.sum_cons, List.sum_nil, Nat.add_zero]
theorem sumVer_le (us : List Ver) (k : Nat) : sumVer (us.take k) ≤ sumVer us := by
  have h : sumVer us = sumVer (us.take k) + sumVer (us.drop k) := by rw [sumVer, sumVer, sumVer, ← List.sum_append, ← List.map_append, List.take_append_drop]
  omega
theorem plV_at {us vs : List Ver} (h : us.map plV = vs.map plV) (k : Nat) (h1 : k < us.length) (h2 : k < vs.length) : plV us[k] = plV vs[k] := by
  have := congrArg (·[k]?) h
  simpa [h1, h2] using this
theorem plV_len {us vs : List Ver} (h : us.map plV = vs.map plV) : us.length = vs.length := by
  have := congrArg List.length h
  simpa using this
theorem Tryd.infoVer : (Tryd.prog.info? 71).map (fun i => (i.zero, i.size, i.bytes)) = some (some (.agg #[.slice none 0 0, .int .i64 0, .bool false, .bool false]), 4, 40) := by kernel_rfl
set_option maxHeartbeats 2000000 in
theorem toVer_hp (u : Ver) (w : World) (hr : Rd w w.heap.size 1 u.da u.data.length u.dc (u.data.flatMap encByte)) (hb : u.data.length ≤ 1048576) :
    Calls Tryd.prog 126 #[valVer u] w fun e w' => ∃ A' c', e = .returned (valVer { u with da := A', dc := c' }) ∧ Hp w w' [rByte A' c' u.data] := by
  have H := Hp.nil w
  obtain ⟨data, da, dc, made, gone, dead⟩ := u
  dsimp only [valVer] at *
  go_enter Tryd.func126, Tryd.ntmps126
  go_wp2_with (go_at_call 145; refine (toByteS_hp da dc data _ (hr.grow (Hp.b (by repeat (first | (with_reducible exact H) | (with_reducible apply Hp.alloc) | (with_reducible apply Hp.set) | (with_reducible apply Hp.drew) | (with_reducible apply Hp.drewN) | (with_reducible apply Hp.bytesW) | (with_reducible exact Upd.here) | (with_reducible exact Upd.hereR) | (with_reducible apply Upd.there) | (with_reducible apply Sz.alloc) | (with_reducible apply Sz.set) | (with_reducible apply Sz.drew) | (with_reducible apply Sz.drewN) | (with_reducible apply Sz.bytesW) | (with_reducible assumption) | (with_reducible exact Sz.base _))))) hb).mono ?_; rintro e w1 ⟨A', c', rfl, h1⟩; replace H := Hp.call (by repeat (first | (with_reducible exact H) | (with_reducible apply Hp.alloc) | (with_reducible apply Hp.set) | (with_reducible apply Hp.drew) | (with_reducible apply Hp.drewN) | (with_reducible apply Hp.bytesW) | (with_reducible exact Upd.here) | (with_reducible exact Upd.hereR) | (with_reducible apply Upd.there) | (with_reducible apply Sz.alloc) | (with_reducible apply Sz.set) | (with_reducible apply Sz.drew) | (with_reducible apply Sz.drewN) | (with_reducible apply Sz.bytesW) | (with_reducible assumption) | (with_reducible exact Sz.base _))) h1; (try simp only [List.set_cons_zero, List.set_cons_succ, List.cons_append, List.nil_append] at H); clear h1; have F := H.facts; simp only [Facts, NeF, box, row, reg, cellsF, ne_eq, true_and, and_true, Nat.reduceAdd, Nat.zero_add] at F)
  refine bodyPost_ret (v := .agg #[.slice A' data.length c', .int .i64 made, .bool gone, .bool dead]) (by simp [results, Tryd.results126, go_sem, F] <;> omega) rfl ⟨A', c', rfl, (by refine Hp.sel (by repeat (first | (with_reducible exact H) | (with_reducible apply Hp.alloc) | (with_reducible apply Hp.set) | (with_reducible apply Hp.drew) | (with_reducible apply Hp.drewN) | (with_reducible apply Hp.bytesW) | (with_reducible exact Upd.here) | (with_reducible exact Upd.hereR) | (with_reducible apply Upd.there) | (with_reducible apply Sz.alloc) | (with_reducible apply Sz.set) | (with_reducible apply Sz.drew) | (with_reducible apply Sz.drewN) | (with_reducible apply Sz.bytesW) | (with_reducible assumption) | (with_reducible exact Sz.base _))) ?_; (try simp only [List.set_cons_zero, List.set_cons_succ]); exact (by repeat (first | (with_reducible exact Sel.nil) | (with_reducible apply Sel.cons) | (with_reducible exact Del.here) | (with_reducible apply Del.there))))⟩
set_option maxHeartbeats 4000000 in
theorem toVerS_any (A : Option Addr) (n c : Nat) (us : List Ver) (w : World) (hr : Rd w w.heap.size 4 A n c (us.flatMap encVer)) (hn : us.length = n) (hb20 : n ≤ 1048576) (hd : ∀ u ∈ us, DV 0 w u) (hdl : ∀ u ∈ us, u.data.length ≤ 1048576) :
    Calls Tryd.prog 101 #[.slice A n c] w fun e w' => ∃ A' c', ∃ vs : List Ver, e = .returned (.slice A' n c') ∧ vs.map plV = us.map plV ∧ Rd w' w'.heap.size 4 A' n c' (vs.flatMap encVer) ∧ (∀ a, A' = some a → w.heap.size ≤ a.block) ∧ (∀ v ∈ vs, DV w.heap.size w' v) ∧ Below w.heap.size w w' := by
  obtain ⟨i0, hi, hz0, hz1, hz2⟩ := info_parts Tryd.infoVer
  have hc := hr.2.1
  have hm := hr.2.2.1
  unfold maxLen at hm
  go_enter Tryd.func101, Tryd.ntmps101
  go_wp2_with (at_make; refine wpList_make_full _ rfl _ _ 60 rfl w.heap.size 71 i0 _ 4 Tryd.underlying60 hi hz0 hz1 _ _ _ _ n rfl rfl rfl rfl ?_ ?_ ?_ ?_; rotate_right; intro w1 hown hgrow)
  case refine_1 => rw [hz2]; omega
  case refine_2 => unfold maxLen; omega
  case refine_3 => exact Nat.le_refl _
  have HB1 : Below w.heap.size w w1 := (Below.refl _ _).grown hgrow (Nat.le_refl _) (fun k hk => by cases hk)
  have hlt1 : w.heap.size < w1.heap.size := ((Own.of hown).lt w.heap.size rfl).2
  generalize (madeCells (Value.cells (.agg #[.slice none 0 0, .int .i64 0, .bool false, .bool false])) (n * 4)).toList = cs0 at *
  clear hgrow
  go_loopw [4] (fun i wr => ∃ k : Nat, k ≤ n ∧ i = .int .i64 k ∧ Below w.heap.size w wr ∧ w.heap.size < wr.heap.size ∧ ∃ vs : List Ver, Hid (vs.length = k ∧ vs.map plV = (us.take k).map plV ∧ ∀ v ∈ vs, DV (w.heap.size + 1) wr v) ∧ ∃ cs, wr.ownsRow w.heap.size 71 4 (.slice (some ⟨w.heap.size, 0, none⟩) n n) n cs ∧ Hid (cs.take (k * 4) = vs.flatMap encVer)) (fun i _ => n - (intOf i).toNat)
  case atStart => exact ⟨0, Nat.zero_le _, rfl, HB1, hlt1, [], ⟨rfl, rfl, fun _ h => by cases h⟩, cs0, hown, by show _ = _; simp⟩
  case round =>
    clear HB1 hown hlt1
    obtain ⟨k, hk, rfl, HB, hws, vs, HV, cs, hown, HC⟩ := hrel
    by_cases hlt : k < n
    · obtain ⟨b, off, rfl, hb, hcell⟩ := hr.elem encVer_len hn hlt
      have c0 := HB.cell (p := ⟨b, off + k * 4 + 0, none⟩) (by omega) |>.trans (hcell 0 _ rfl)
      have c1 := HB.cell (p := ⟨b, off + k * 4 + 1, none⟩) (by omega) |>.trans (hcell 1 _ rfl)
      have c2 := HB.cell (p := ⟨b, off + k * 4 + 2, none⟩) (by omega) |>.trans (hcell 2 _ rfl)
      have c3 := HB.cell (p := ⟨b, off + k * 4 + 3, none⟩) (by omega) |>.trans (hcell 3 _ rfl)
      simp only [Nat.add_zero] at c0
      have hz := HB.size
      have hkl : k < us.length := by omega
      have HPL : Hid ((us.take (k + 1)).map plV = vs.map plV ++ [plV us[k]]) := by show _ = _; rw [List.take_succ_eq_append_getElem hkl, List.map_append, ← HV.out.2.1]; rfl
      have hdk := (hd us[k] (List.getElem_mem hkl)).step HB
      have hlk := hdl us[k] (List.getElem_mem hkl)
      have HT : Hid (∀ v' : Ver, (setL cs (k * 4) (encVer v')).take ((k + 1) * 4) = (vs ++ [v']).flatMap encVer) := by
        intro v'
        exact take_flat_new encVer_len HV.out.1 hlt HC.out hown.1 v'
      clear hcell
      generalize us[k] = u at *
      obtain ⟨data, da, dc, made, gone, dead⟩ := u
      dsimp only at c0 c1 c2 c3 hdk hlk
      go_wp2_with (go_at_call 126; refine (toVer_hp ⟨data, da, dc, made, gone, dead⟩ _ hdk.1 hlk).mono ?_; rintro e w1 ⟨A', c', rfl, h1⟩; have hb1 := h1.b; have hdn := h1.ok _ List.mem_cons_self; clear h1; have hown1 := own_grow hown hb1; obtain ⟨v0, hv0, d0⟩ := own_cell hown1 (j := k * 4 + 0) (by omega); have f0 := hown1.frozenAt (k * 4 + 0); obtain ⟨v1, hv1, d1⟩ := own_cell hown1 (j := k * 4 + 1) (by omega); have f1 := hown1.frozenAt (k * 4 + 1); obtain ⟨v2, hv2, d2⟩ := own_cell hown1 (j := k * 4 + 2) (by omega); have f2 := hown1.frozenAt (k * 4 + 2); obtain ⟨v3, hv3, d3⟩ := own_cell hown1 (j := k * 4 + 3) (by omega); have f3 := hown1.frozenAt (k * 4 + 3); simp only [Nat.add_zero] at d0 f0)
      have hnew : DV (w.heap.size + 1) w1 ⟨data, A', c', made, gone, dead⟩ := by
        refine ⟨(Own.of hdn.p).rd, fun a ha => ?_⟩
        have hal := (hdn.lt a.block (by show (Value.slice A' data.length c').ownBlock = some a.block; have ha2 : A' = some a := ha; rw [ha2]; rfl)).1
        omega
      have HA : Hid (∀ v ∈ vs ++ [(⟨data, A', c', made, gone, dead⟩ : Ver)], DV (w.heap.size + 1) w1 v) := by
        intro v hv
        rcases List.mem_append.1 hv with hv | hv
        · exact (HV.out.2.2 v hv).step hb1
        · rw [List.mem_singleton.1 hv]; exact hnew
      have hws1 : w.heap.size < w1.heap.size := Nat.lt_of_lt_of_le hws hb1.size
      go_roundw
      case rel => exact ⟨k + 1, by omega, by go_num, (((((blift HB hb1 hz).setCell (by simp) _).setCell (by simp) _).setCell (by simp) _).setCell (by simp) _), by simpa [World.setCell] using hws1, vs ++ [(⟨data, A', c', made, gone, dead⟩ : Ver)], ⟨by simp [HV.out.1], by rw [HPL.out, List.map_append]; rfl, fun v hv => ((((HA.out v hv).set (by omega)).set (by omega)).set (by omega)).set (by omega)⟩, _, ((((hown1.stored (k * 4) (.slice A' data.length c')).1.stored (k * 4 + 1) (.int .i64 made)).1.stored (k * 4 + 2) (.bool gone)).1.stored (k * 4 + 3) (.bool dead)).1, Lib.hid (HT.out ⟨data, A', c', made, gone, dead⟩)⟩
      case measure => simp [intOf]; omega
    · have hkn : k = n := by omega
      have HF : Hid (cs = vs.flatMap encVer) := by
        have h2 := HC.out
        have h3 := HV.out.1
        rw [List.take_of_length_le (by rw [hown.1]; omega)] at h2
        exact h2
      have HG : Hid (vs.map plV = us.map plV) := by show _ = _; rw [HV.out.2.1, List.take_of_length_le (by omega)]
      go_wp2_with fail
      go_ret
      exact ⟨_, _, vs, rfl, HG.out, by rw [← HF.out]; exact (Own.of hown).rd, fun a ha => by cases ha; exact Nat.le_refl _, fun v hv => ⟨(HV.out.2.2 v hv).1, fun a ha => by have := (HV.out.2.2 v hv).2 a ha; omega⟩, HB⟩
set_option maxHeartbeats 2000000 in
theorem eqVer_any (u v : Ver) (hp : plV u = plV v) (w : World) (hu : DV 0 w u) (hv : DV 0 w v) :
    Calls Tryd.prog 127 #[valVer u, valVer v] w fun e w' => e = .returned (.bool true) ∧ Below w.heap.size w w' := by
  have H := Hp.nil w
  obtain ⟨data, da, dc, made, gone, dead⟩ := u
  obtain ⟨data2, da2, dc2, made2, gone2, dead2⟩ := v
  simp only [plV, Ver.mk.injEq, true_and, and_true] at hp
  obtain ⟨rfl, rfl, rfl, rfl⟩ := hp
  have hu1 := hu.1
  have hv1 := hv.1
  dsimp only [valVer] at *
  clear hu hv
  go_enter Tryd.func127, Tryd.ntmps127
  go_wp2_with (go_at_call 146; refine (eqByteS_any da da2 data.length dc dc2 data _ (hu1.grow (Hp.b (by repeat (first | (with_reducible exact H) | (with_reducible apply Hp.alloc) | (with_reducible apply Hp.set) | (with_reducible apply Hp.drew) | (with_reducible apply Hp.drewN) | (with_reducible apply Hp.bytesW) | (with_reducible exact Upd.here) | (with_reducible exact Upd.hereR) | (with_reducible apply Upd.there) | (with_reducible apply Sz.alloc) | (with_reducible apply Sz.set) | (with_reducible apply Sz.drew) | (with_reducible apply Sz.drewN) | (with_reducible apply Sz.bytesW) | (with_reducible assumption) | (with_reducible exact Sz.base _))))) (hv1.grow (Hp.b (by repeat (first | (with_reducible exact H) | (with_reducible apply Hp.alloc) | (with_reducible apply Hp.set) | (with_reducible apply Hp.drew) | (with_reducible apply Hp.drewN) | (with_reducible apply Hp.bytesW) | (with_reducible exact Upd.here) | (with_reducible exact Upd.hereR) | (with_reducible apply Upd.there) | (with_reducible apply Sz.alloc) | (with_reducible apply Sz.set) | (with_reducible apply Sz.drew) | (with_reducible apply Sz.drewN) | (with_reducible apply Sz.bytesW) | (with_reducible assumption) | (with_reducible exact Sz.base _))))) rfl).mono ?_; rintro e w1 ⟨rfl, h1⟩; replace H := Hp.step (by repeat (first | (with_reducible exact H) | (with_reducible apply Hp.alloc) | (with_reducible apply Hp.set) | (with_reducible apply Hp.drew) | (with_reducible apply Hp.drewN) | (with_reducible apply Hp.bytesW) | (with_reducible exact Upd.here) | (with_reducible exact Upd.hereR) | (with_reducible apply Upd.there) | (with_reducible apply Sz.alloc) | (with_reducible apply Sz.set) | (with_reducible apply Sz.drew) | (with_reducible apply Sz.drewN) | (with_reducible apply Sz.bytesW) | (with_reducible assumption) | (with_reducible exact Sz.base _))) h1; (try simp only [List.set_cons_zero, List.set_cons_succ, List.cons_append, List.nil_append] at H); clear h1; have F := H.facts; simp only [Facts, NeF, box, row, reg, cellsF, ne_eq, true_and, and_true, Nat.reduceAdd, Nat.zero_add] at F)
  go_ret
  exact ⟨rfl, Hp.b (by repeat (first | (with_reducible exact H) | (with_reducible apply Hp.alloc) | (with_reducible apply Hp.set) | (with_reducible apply Hp.drew) | (with_reducible apply Hp.drewN) | (with_reducible apply Hp.bytesW) | (with_reducible exact Upd.here) | (with_reducible exact Upd.hereR) | (with_reducible apply Upd.there) | (with_reducible apply Sz.alloc) | (with_reducible apply Sz.set) | (with_reducible apply Sz.drew) | (with_reducible apply Sz.drewN) | (with_reducible apply Sz.bytesW) | (with_reducible assumption) | (with_reducible exact Sz.base _)))⟩
set_option maxHeartbeats 2000000 in
theorem eqVerS_any (A A' : Option Addr) (n c c' : Nat) (us vs : List Ver) (w : World) (hr : Rd w w.heap.size 4 A n c (us.flatMap encVer)) (hr' : Rd w w.heap.size 4 A' n c' (vs.flatMap encVer)) (hn : us.length = n) (hp : us.map plV = vs.map plV) (hu : ∀ u ∈ us, DV 0 w u) (hv : ∀ u ∈ vs, DV 0 w u) :
    Calls Tryd.prog 102 #[.slice A n c, .slice A' n c'] w fun e w' => e = .returned (.bool true) ∧ Below w.heap.size w w' := by
  have hc := hr.2.1
  have hm := hr.2.2.1
  have hc' := hr'.2.1
  have hvl : vs.length = n := by rw [← plV_len hp]; exact hn
  unfold maxLen at hm
  go_enter Tryd.func102, Tryd.ntmps102
  go_wp2_with fail
  go_loopw [5] (fun i wr => ∃ k : Nat, k ≤ n ∧ i = .int .i64 k ∧ Below w.heap.size w wr) (fun i _ => n - (intOf i).toNat)
  case atStart => exact ⟨0, Nat.zero_le _, rfl, Below.refl _ _⟩
  case round =>
    obtain ⟨k, hk, rfl, HB⟩ := hrel
    by_cases hlt : k < n
    · obtain ⟨b, off, rfl, hb, hcell⟩ := hr.elem encVer_len hn hlt
      obtain ⟨b', off', rfl, hb', hcell'⟩ := hr'.elem encVer_len hvl hlt
      have hz := HB.size
      have c0 := HB.cell (p := ⟨b, off + k * 4 + 0, none⟩) hb |>.trans (hcell 0 _ rfl)
      have e0 := HB.cell (p := ⟨b', off' + k * 4 + 0, none⟩) hb' |>.trans (hcell' 0 _ rfl)
      have c1 := HB.cell (p := ⟨b, off + k * 4 + 1, none⟩) hb |>.trans (hcell 1 _ rfl)
      have e1 := HB.cell (p := ⟨b', off' + k * 4 + 1, none⟩) hb' |>.trans (hcell' 1 _ rfl)
      have c2 := HB.cell (p := ⟨b, off + k * 4 + 2, none⟩) hb |>.trans (hcell 2 _ rfl)
      have e2 := HB.cell (p := ⟨b', off' + k * 4 + 2, none⟩) hb' |>.trans (hcell' 2 _ rfl)
      have c3 := HB.cell (p := ⟨b, off + k * 4 + 3, none⟩) hb |>.trans (hcell 3 _ rfl)
      have e3 := HB.cell (p := ⟨b', off' + k * 4 + 3, none⟩) hb' |>.trans (hcell' 3 _ rfl)
      simp only [Nat.add_zero] at c0 e0
      have hpk := plV_at hp k (by omega) (by omega)
      have hdu := (hu us[k] (List.getElem_mem _)).step HB
      have hdv := (hv vs[k] (List.getElem_mem _)).step HB
      have HEQ : Hid (∀ W, Below wr.heap.size wr W → Calls Tryd.prog 127 #[valVer us[k], valVer vs[k]] W fun e w' => e = .returned (.bool true) ∧ Below W.heap.size W w') := fun W h => eqVer_any _ _ hpk W (hdu.step h) (hdv.step h)
      clear hcell hcell' hpk hdu hdv
      generalize us[k] = u at *
      generalize vs[k] = v at *
      obtain ⟨data, da, dc, made, gone, dead⟩ := u
      obtain ⟨data2, da2, dc2, made2, gone2, dead2⟩ := v
      dsimp only [valVer] at *
      have hk1 : (k : Int) < (n : Int) := by omega
      go_wp2_with fail
      go_region_with (go_at_call 127; refine (HEQ.out _ (by first | exact Below.refl _ _ | exact (Below.refl _ _).drew | exact below_drewN (Below.refl _ _) _)).mono ?_; rintro e w1 ⟨rfl, hb1⟩)
      all_goals
        go_wp2
        go_roundw
        case rel => exact ⟨k + 1, by omega, by go_num, blift HB.drew hb1 hz⟩
        case measure => simp [intOf]; omega
    · go_wp2_with fail
      go_ret
      exact ⟨rfl, HB⟩
set_option maxHeartbeats 2000000 in
theorem szVer_any (u : Ver) (left : Int) (w : World) (h0 : 0 ≤ left) (h1 : left ≤ 1048576) (hd : DV 0 w u) :
    Calls Tryd.prog 125 #[valVer u, .int .i64 left] w fun e w' => e = .returned (.int .i64 (leftOf left (szVer u))) ∧ Below w.heap.size w w' := by
  have H := Hp.nil w
  have hr := hd.1
  obtain ⟨data, da, dc, made, gone, dead⟩ := u
  dsimp only [valVer, szVer] at *
  by_cases hx : leftOf left data.length < 0
  · have hy : leftOf left data.length = -1 := leftOf_m1 hx
    go_enter Tryd.func125, Tryd.ntmps125
    go_wp2_with (go_at_call 144; refine (szByteS_any da data.length dc data left _ (hr.grow (Hp.b (by repeat (first | (with_reducible exact H) | (with_reducible apply Hp.alloc) | (with_reducible apply Hp.set) | (with_reducible apply Hp.drew) | (with_reducible apply Hp.drewN) | (with_reducible apply Hp.bytesW) | (with_reducible exact Upd.here) | (with_reducible exact Upd.hereR) | (with_reducible apply Upd.there) | (with_reducible apply Sz.alloc) | (with_reducible apply Sz.set) | (with_reducible apply Sz.drew) | (with_reducible apply Sz.drewN) | (with_reducible apply Sz.bytesW) | (with_reducible assumption) | (with_reducible exact Sz.base _))))) rfl h0 h1).mono ?_; rintro e w1 ⟨rfl, h1⟩; replace H := Hp.step (by repeat (first | (with_reducible exact H) | (with_reducible apply Hp.alloc) | (with_reducible apply Hp.set) | (with_reducible apply Hp.drew) | (with_reducible apply Hp.drewN) | (with_reducible apply Hp.bytesW) | (with_reducible exact Upd.here) | (with_reducible exact Upd.hereR) | (with_reducible apply Upd.there) | (with_reducible apply Sz.alloc) | (with_reducible apply Sz.set) | (with_reducible apply Sz.drew) | (with_reducible apply Sz.drewN) | (with_reducible apply Sz.bytesW) | (with_reducible assumption) | (with_reducible exact Sz.base _))) h1; (try simp only [List.set_cons_zero, List.set_cons_succ, List.cons_append, List.nil_append] at H); clear h1; have F := H.facts; simp only [Facts, NeF, box, row, reg, cellsF, ne_eq, true_and, and_true, Nat.reduceAdd, Nat.zero_add] at F)
    go_ret
    exact ⟨by rw [hy]; rfl, Hp.b (by repeat (first | (with_reducible exact H) | (with_reducible apply Hp.alloc) | (with_reducible apply Hp.set) | (with_reducible apply Hp.drew) | (with_reducible apply Hp.drewN) | (with_reducible apply Hp.bytesW) | (with_reducible exact Upd.here) | (with_reducible exact Upd.hereR) | (with_reducible apply Upd.there) | (with_reducible apply Sz.alloc) | (with_reducible apply Sz.set) | (with_reducible apply Sz.drew) | (with_reducible apply Sz.drewN) | (with_reducible apply Sz.bytesW) | (with_reducible assumption) | (with_reducible exact Sz.base _)))⟩
  · go_enter Tryd.func125, Tryd.ntmps125
    go_wp2_with (go_at_call 144; refine (szByteS_any da data.length dc data left _ (hr.grow (Hp.b (by repeat (first | (with_reducible exact H) | (with_reducible apply Hp.alloc) | (with_reducible apply Hp.set) | (with_reducible apply Hp.drew) | (with_reducible apply Hp.drewN) | (with_reducible apply Hp.bytesW) | (with_reducible exact Upd.here) | (with_reducible exact Upd.hereR) | (with_reducible apply Upd.there) | (with_reducible apply Sz.alloc) | (with_reducible apply Sz.set) | (with_reducible apply Sz.drew) | (with_reducible apply Sz.drewN) | (with_reducible apply Sz.bytesW) | (with_reducible assumption) | (with_reducible exact Sz.base _))))) rfl h0 h1).mono ?_; rintro e w1 ⟨rfl, h1⟩; replace H := Hp.step (by repeat (first | (with_reducible exact H) | (with_reducible apply Hp.alloc) | (with_reducible apply Hp.set) | (with_reducible apply Hp.drew) | (with_reducible apply Hp.drewN) | (with_reducible apply Hp.bytesW) | (with_reducible exact Upd.here) | (with_reducible exact Upd.hereR) | (with_reducible apply Upd.there) | (with_reducible apply Sz.alloc) | (with_reducible apply Sz.set) | (with_reducible apply Sz.drew) | (with_reducible apply Sz.drewN) | (with_reducible apply Sz.bytesW) | (with_reducible assumption) | (with_reducible exact Sz.base _))) h1; (try simp only [List.set_cons_zero, List.set_cons_succ, List.cons_append, List.nil_append] at H); clear h1; have F := H.facts; simp only [Facts, NeF, box, row, reg, cellsF, ne_eq, true_and, and_true, Nat.reduceAdd, Nat.zero_add] at F)
    go_ret
    exact ⟨rfl, Hp.b (by repeat (first | (with_reducible exact H) | (with_reducible apply Hp.alloc) | (with_reducible apply Hp.set) | (with_reducible apply Hp.drew) | (with_reducible apply Hp.drewN) | (with_reducible apply Hp.bytesW) | (with_reducible exact Upd.here) | (with_reducible exact Upd.hereR) | (with_reducible apply Upd.there) | (with_reducible apply Sz.alloc) | (with_reducible apply Sz.set) | (with_reducible apply Sz.drew) | (with_reducible apply Sz.drewN) | (with_reducible apply Sz.bytesW) | (with_reducible assumption) | (with_reducible exact Sz.base _)))⟩
set_option maxHeartbeats 2000000 in
theorem szVerS_any (A : Option Addr) (n c : Nat) (us : List Ver) (left : Int) (w : World) (hr : Rd w w.heap.size 4 A n c (us.flatMap encVer)) (hn : us.length = n) (h0 : 0 ≤ left) (h1 : left ≤ 1048576) (hd : ∀ u ∈ us, DV 0 w u) :
    Calls Tryd.prog 100 #[.slice A n c, .int .i64 left] w fun e w' => e = .returned (.int .i64 (leftOf left (n + sumVer us))) ∧ Below w.heap.size w w' := by
  have hc := hr.2.1
  have hm := hr.2.2.1
  unfold maxLen at hm
  by_cases c1 : left - (n : Int) < 0
  · go_enter Tryd.func100, Tryd.ntmps100
    go_wp2_with fail
    go_ret
    exact ⟨by rw [leftOf, if_neg (by omega)]; rfl, Below.refl _ _⟩
  · go_enter Tryd.func100, Tryd.ntmps100
    go_wp2_with fail
    go_loopw [1, 5] (fun l i wr => ∃ k : Nat, k ≤ n ∧ i = .int .i64 k ∧ ∃ m : Int, l = .int .i64 m ∧ 0 ≤ m ∧ m ≤ 1048576 ∧ Hid (m = left - n - sumVer (us.take k)) ∧ Below w.heap.size w wr) (fun _ i _ => n - (intOf i).toNat)
    case atStart => exact ⟨0, Nat.zero_le _, rfl, _, rfl, by omega, by omega, by show _ = _; simp [sumVer], Below.refl _ _⟩
    case round =>
      obtain ⟨k, hk, rfl, m, rfl, hm0, hm1, HM, HB⟩ := hrel
      by_cases hlt : k < n
      · obtain ⟨b, off, rfl, hb, hcell⟩ := hr.elem encVer_len hn hlt
        have c0 := HB.cell (p := ⟨b, off + k * 4 + 0, none⟩) hb |>.trans (hcell 0 _ rfl)
        have c1 := HB.cell (p := ⟨b, off + k * 4 + 1, none⟩) hb |>.trans (hcell 1 _ rfl)
        have c2 := HB.cell (p := ⟨b, off + k * 4 + 2, none⟩) hb |>.trans (hcell 2 _ rfl)
        have c3 := HB.cell (p := ⟨b, off + k * 4 + 3, none⟩) hb |>.trans (hcell 3 _ rfl)
        simp only [Nat.add_zero] at c0
        have hdk := (hd us[k] (List.getElem_mem (by omega))).step HB
        have HS : Hid (sumVer (us.take (k + 1)) = sumVer (us.take k) + szVer us[k]) := sumVer_take (by omega)
        have HL : Hid (sumVer (us.take (k + 1)) ≤ sumVer us) := sumVer_le us (k + 1)
        have hz := HB.size
        clear hcell
        have HZ : Hid (∀ W, Below wr.heap.size wr W → Calls Tryd.prog 125 #[valVer us[k], .int .i64 m] W fun e w' => e = .returned (.int .i64 (leftOf m (szVer us[k]))) ∧ Below W.heap.size W w') := fun W h => szVer_any us[k] m W hm0 hm1 (hdk.step h)
        generalize hsz : szVer us[k] = sz at *
        clear hsz hdk
        generalize us[k] = u at *
        obtain ⟨data, da, dc, made, gone, dead⟩ := u
        dsimp only [valVer] at *
        go_wp2_with (go_at_call 125; refine (HZ.out _ (Below.refl _ _)).mono ?_; rintro e w1 ⟨rfl, hb1⟩)
        · go_ret
          have hx : leftOf m sz < 0 := by assumption
          have HN : leftOf left (n + sumVer us) = -1 := by
            have := leftOf_neg hx; have := HM.out; have := HS.out; have := HL.out
            rw [leftOf, if_neg (by omega)]
          exact ⟨by rw [HN]; rfl, blift HB hb1 hz⟩
        · have hx : 0 ≤ leftOf m sz := by assumption
          have hx' := leftOf_nn hx
          go_roundw
          case rel => exact ⟨k + 1, by omega, by go_num, _, rfl, hx, by omega, by have := HM.out; have := HS.out; show _ = _; omega, blift HB hb1 hz⟩
          case measure => simp [intOf]; omega
      · have HF : Hid (m = leftOf left (n + sumVer us)) := by
          have h2 := HM.out
          rw [List.take_of_length_le (by omega)] at h2
          show _ = _
          rw [leftOf, if_pos (by omega)]; omega
        go_wp2_with fail
        go_ret
        exact ⟨by rw [← HF.out]; simp, HB⟩
end Go.Proofs.YtklmcbabpncfmaaDoor

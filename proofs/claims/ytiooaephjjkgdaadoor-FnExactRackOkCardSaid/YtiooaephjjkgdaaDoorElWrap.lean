/- Elements Wrap (each with a row of bytes): data, and contracts of the statements' own helpers over them. No condition. -/
import Derived.Test.YtiooaephjjkgdaaDoorEnByte
import Derived.Test.YtiooaephjjkgdaaDoorMark
import Derived.Deep.QuietTactic
import Derived.BigQuiet
import Derived.Deep.RegionHeld3
namespace Go.Proofs.YtiooaephjjkgdaaDoor
open Go.RowKit
set_option linter.unusedVariables false
set_option linter.unusedSimpArgs false
structure Wrap where
  id : Int
  ends : Int
  kind : ByteArray
  nonce : Int
  data : List UInt8
  da : Option Addr
  dc : Nat
  tag : Int
def encWrap (x : Wrap) : List Value := [.int .i64 x.id, .int .i64 x.ends, .string x.kind, .int .i64 x.nonce, .slice x.da x.data.length x.dc, .int .i64 x.tag]
theorem encWrap_len (x : Wrap) : (encWrap x).length = 6 := rfl
abbrev valWrap (x : Wrap) : Value := .agg #[.int .i64 x.id, .int .i64 x.ends, .string x.kind, .int .i64 x.nonce, .slice x.da x.data.length x.dc, .int .i64 x.tag]
/-- What a wrap holds, without where its bytes lie. -/
def plW (x : Wrap) : Wrap := { x with da := none, dc := 0 }
/-- The bytes of a wrap read, and lie at lo or above. -/
def DW (lo : Nat) (w : World) (x : Wrap) : Prop := Rd w w.heap.size 1 x.da x.data.length x.dc (x.data.flatMap encByte) ∧ ∀ a, x.da = some a → lo ≤ a.block
theorem DW.step {lo : Nat} {w w' : World} {x : Wrap} (h : DW lo w x) (hb : Below w.heap.size w w') : DW lo w' x := ⟨h.1.grow hb, h.2⟩
theorem DW.set {lo g o : Nat} {w : World} {x : Wrap} {v : Value} (h : DW lo w x) (hg : g < lo) : DW lo (w.setCell ⟨g, o, none⟩ v) x := by
  refine ⟨⟨h.1.1, h.1.2.1, h.1.2.2.1, fun h0 => ?_⟩, h.2⟩
  obtain ⟨b, off, e, hb, hc⟩ := h.1.2.2.2 h0
  have hl := h.2 _ e
  have hsz : (w.setCell ⟨g, o, none⟩ v).heap.size = w.heap.size := by simp [World.setCell]
  refine ⟨b, off, e, by rw [hsz]; exact hb, fun j u hu => ?_⟩
  have hl2 : lo ≤ b := hl
  exact (World.cell?_of_block (w := w) (a := ⟨b, off + j, none⟩) (Below.heap_setCell w ⟨g, o, none⟩ v b (show b ≠ g by omega))).trans (hc j u hu)
theorem DW.zero {lo : Nat} {w : World} {x : Wrap} (h : DW lo w x) : DW 0 w x := ⟨h.1, fun _ _ => Nat.zero_le _⟩
/-- A row that reads, and lies at lo or above. -/
def RdL (lo k : Nat) (w : World) (A : Option Addr) (n c : Nat) (xs : List Value) : Prop := Rd w w.heap.size k A n c xs ∧ ∀ a, A = some a → lo ≤ a.block
theorem RdL.set {lo k g o n c : Nat} {w : World} {A : Option Addr} {xs : List Value} {v : Value} (h : RdL lo k w A n c xs) (hg : g < lo) : RdL lo k (w.setCell ⟨g, o, none⟩ v) A n c xs := by
  refine ⟨⟨h.1.1, h.1.2.1, h.1.2.2.1, fun h0 => ?_⟩, h.2⟩
  obtain ⟨b, off, e, hb, hc⟩ := h.1.2.2.2 h0
  have hl := h.2 _ e
  have hsz : (w.setCell ⟨g, o, none⟩ v).heap.size = w.heap.size := by simp [World.setCell]
  refine ⟨b, off, e, by rw [hsz]; exact hb, fun j u hu => ?_⟩
  have hl2 : lo ≤ b := hl
  exact (World.cell?_of_block (w := w) (a := ⟨b, off + j, none⟩) (Below.heap_setCell w ⟨g, o, none⟩ v b (show b ≠ g by omega))).trans (hc j u hu)
def szWrap (x : Wrap) : Nat := x.kind.size + x.data.length
def sumWrap (us : List Wrap) : Nat := (us.map szWrap).sum
theorem sumWrap_take {us : List Wrap} {k : Nat} (h : k < us.length) : sumWrap (us.take (k + 1)) = sumWrap (us.take k) + szWrap us[k] := by
  rw [sumWrap, sumWrap, List.take_succ_eq_append_getElem h, List.map_append, List.sum_append, List.map_cons, List.map_nil, List.sum_cons, List.sum_nil, Nat.add_zero]
theorem sumWrap_le (us : List Wrap) (k : Nat) : sumWrap (us.take k) ≤ sumWrap us := by
  have h : sumWrap us = sumWrap (us.take k) + sumWrap (us.drop k) := by rw [sumWrap, sumWrap, sumWrap, ← List.sum_append, ← List.map_append, List.take_append_drop]
  omega
theorem plW_at {us vs : List Wrap} (h : us.map plW = vs.map plW) (k : Nat) (h1 : k < us.length) (h2 : k < vs.length) : plW us[k] = plW vs[k] := by
  have := congrArg (·[k]?) h
  simpa [h1, h2] using this
theorem plW_len {us vs : List Wrap} (h : us.map plW = vs.map plW) : us.length = vs.length := by
  have := congrArg List.length h
  simpa using this
theorem Tryd.infoWrap : (Tryd.prog.info? 67).map (fun i => (i.zero, i.size, i.bytes)) = some (some (.agg #[.int .i64 0, .int .i64 0, .string ByteArray.empty, .int .i64 0, .slice none 0 0, .int .i64 0]), 6, 72) := by kernel_rfl
theorem take_flat_new {α : Type} {enc : α → List Value} {m : Nat} (he : ∀ x, (enc x).length = m) {cs : List Value} {vs : List α} {n k : Nat} (hv : vs.length = k) (hk : k < n) (hc : cs.take (k * m) = vs.flatMap enc) (hl : cs.length = n * m) (v : α) : (setL cs (k * m) (enc v)).take ((k + 1) * m) = (vs ++ [v]).flatMap enc := by
  have hL : (vs ++ List.replicate (n - k) v).length = n := by simp; omega
  have h := take_flat (us := vs ++ List.replicate (n - k) v) he (i := k) (by omega) (by rw [List.take_left' hv]; exact hc) (by rw [hl, hL])
  have e1 : (vs ++ List.replicate (n - k) v)[k]'(by omega) = v := by rw [List.getElem_append_right (by omega)]; simp
  have e2 : (vs ++ List.replicate (n - k) v).take (k + 1) = vs ++ [v] := by
    obtain ⟨q, hq⟩ : ∃ q, n - k = q + 1 := ⟨n - k - 1, by omega⟩
    rw [hq, List.replicate_succ, List.take_append, List.take_of_length_le (by omega), show k + 1 - vs.length = 1 by omega]; rfl
  rw [e1, e2] at h
  exact h
set_option maxHeartbeats 2000000 in
theorem toBox_hp (nonce tag : Int) (A : Option Addr) (c : Nat) (bs : List UInt8) (w : World) (hr : Rd w w.heap.size 1 A bs.length c (bs.flatMap encByte)) (hb : bs.length ≤ 1048576) :
    Calls Tryd.prog 97 #[.agg #[.int .i64 nonce, .slice A bs.length c, .int .i64 tag]] w fun e w' => ∃ A' c', e = .returned (.agg #[.int .i64 nonce, .slice A' bs.length c', .int .i64 tag]) ∧ Hp w w' [rByte A' c' bs] := by
  have H := Hp.nil w
  go_enter Tryd.func97, Tryd.ntmps97
  go_wp2_with (go_at_call 109; refine (toByteS_hp A c bs _ (hr.grow (Hp.b (by repeat (first | (with_reducible exact H) | (with_reducible apply Hp.alloc) | (with_reducible apply Hp.set) | (with_reducible apply Hp.drew) | (with_reducible apply Hp.drewN) | (with_reducible apply Hp.bytesW) | (with_reducible exact Upd.here) | (with_reducible exact Upd.hereR) | (with_reducible apply Upd.there) | (with_reducible apply Sz.alloc) | (with_reducible apply Sz.set) | (with_reducible apply Sz.drew) | (with_reducible apply Sz.drewN) | (with_reducible apply Sz.bytesW) | (with_reducible assumption) | (with_reducible exact Sz.base _))))) hb).mono ?_; rintro e w1 ⟨A', c', rfl, h1⟩; replace H := Hp.call (by repeat (first | (with_reducible exact H) | (with_reducible apply Hp.alloc) | (with_reducible apply Hp.set) | (with_reducible apply Hp.drew) | (with_reducible apply Hp.drewN) | (with_reducible apply Hp.bytesW) | (with_reducible exact Upd.here) | (with_reducible exact Upd.hereR) | (with_reducible apply Upd.there) | (with_reducible apply Sz.alloc) | (with_reducible apply Sz.set) | (with_reducible apply Sz.drew) | (with_reducible apply Sz.drewN) | (with_reducible apply Sz.bytesW) | (with_reducible assumption) | (with_reducible exact Sz.base _))) h1; (try simp only [List.set_cons_zero, List.set_cons_succ, List.cons_append, List.nil_append] at H); clear h1; have F := H.facts; simp only [Facts, NeF, box, row, reg, cellsF, ne_eq, true_and, and_true, Nat.reduceAdd, Nat.zero_add] at F)
  refine bodyPost_ret (v := .agg #[.int .i64 nonce, .slice A' bs.length c', .int .i64 tag]) (by simp [results, Tryd.results97, go_sem, F] <;> omega) rfl ⟨A', c', rfl, (by refine Hp.sel (by repeat (first | (with_reducible exact H) | (with_reducible apply Hp.alloc) | (with_reducible apply Hp.set) | (with_reducible apply Hp.drew) | (with_reducible apply Hp.drewN) | (with_reducible apply Hp.bytesW) | (with_reducible exact Upd.here) | (with_reducible exact Upd.hereR) | (with_reducible apply Upd.there) | (with_reducible apply Sz.alloc) | (with_reducible apply Sz.set) | (with_reducible apply Sz.drew) | (with_reducible apply Sz.drewN) | (with_reducible apply Sz.bytesW) | (with_reducible assumption) | (with_reducible exact Sz.base _))) ?_; (try simp only [List.set_cons_zero, List.set_cons_succ]); exact (by repeat (first | (with_reducible exact Sel.nil) | (with_reducible apply Sel.cons) | (with_reducible exact Del.here) | (with_reducible apply Del.there))))⟩
set_option maxHeartbeats 2000000 in
theorem toWrap_hp (u : Wrap) (w : World) (hr : Rd w w.heap.size 1 u.da u.data.length u.dc (u.data.flatMap encByte)) (hb : u.data.length ≤ 1048576) :
    Calls Tryd.prog 71 #[valWrap u] w fun e w' => ∃ A' c', e = .returned (valWrap { u with da := A', dc := c' }) ∧ Hp w w' [rByte A' c' u.data] := by
  have H := Hp.nil w
  obtain ⟨id, ends, kind, nonce, data, da, dc, tag⟩ := u
  dsimp only [valWrap] at *
  go_enter Tryd.func71, Tryd.ntmps71
  go_wp2_with (go_at_call 97; refine (toBox_hp nonce tag da dc data _ (hr.grow (Hp.b (by repeat (first | (with_reducible exact H) | (with_reducible apply Hp.alloc) | (with_reducible apply Hp.set) | (with_reducible apply Hp.drew) | (with_reducible apply Hp.drewN) | (with_reducible apply Hp.bytesW) | (with_reducible exact Upd.here) | (with_reducible exact Upd.hereR) | (with_reducible apply Upd.there) | (with_reducible apply Sz.alloc) | (with_reducible apply Sz.set) | (with_reducible apply Sz.drew) | (with_reducible apply Sz.drewN) | (with_reducible apply Sz.bytesW) | (with_reducible assumption) | (with_reducible exact Sz.base _))))) hb).mono ?_; rintro e w1 ⟨A', c', rfl, h1⟩; replace H := Hp.call (by repeat (first | (with_reducible exact H) | (with_reducible apply Hp.alloc) | (with_reducible apply Hp.set) | (with_reducible apply Hp.drew) | (with_reducible apply Hp.drewN) | (with_reducible apply Hp.bytesW) | (with_reducible exact Upd.here) | (with_reducible exact Upd.hereR) | (with_reducible apply Upd.there) | (with_reducible apply Sz.alloc) | (with_reducible apply Sz.set) | (with_reducible apply Sz.drew) | (with_reducible apply Sz.drewN) | (with_reducible apply Sz.bytesW) | (with_reducible assumption) | (with_reducible exact Sz.base _))) h1; (try simp only [List.set_cons_zero, List.set_cons_succ, List.cons_append, List.nil_append] at H); clear h1; have F := H.facts; simp only [Facts, NeF, box, row, reg, cellsF, ne_eq, true_and, and_true, Nat.reduceAdd, Nat.zero_add] at F)
  refine bodyPost_ret (v := .agg #[.int .i64 id, .int .i64 ends, .string kind, .int .i64 nonce, .slice A' data.length c', .int .i64 tag]) (by simp [results, Tryd.results71, go_sem, F] <;> omega) rfl ⟨A', c', rfl, (by refine Hp.sel (by repeat (first | (with_reducible exact H) | (with_reducible apply Hp.alloc) | (with_reducible apply Hp.set) | (with_reducible apply Hp.drew) | (with_reducible apply Hp.drewN) | (with_reducible apply Hp.bytesW) | (with_reducible exact Upd.here) | (with_reducible exact Upd.hereR) | (with_reducible apply Upd.there) | (with_reducible apply Sz.alloc) | (with_reducible apply Sz.set) | (with_reducible apply Sz.drew) | (with_reducible apply Sz.drewN) | (with_reducible apply Sz.bytesW) | (with_reducible assumption) | (with_reducible exact Sz.base _))) ?_; (try simp only [List.set_cons_zero, List.set_cons_succ]); exact (by repeat (first | (with_reducible exact Sel.nil) | (with_reducible apply Sel.cons) | (with_reducible exact Del.here) | (with_reducible apply Del.there))))⟩
set_option maxHeartbeats 4000000 in
theorem toWrapS_any (A : Option Addr) (n c : Nat) (us : List Wrap) (w : World) (hr : Rd w w.heap.size 6 A n c (us.flatMap encWrap)) (hn : us.length = n) (hb20 : n ≤ 1048576) (hd : ∀ u ∈ us, DW 0 w u) (hdl : ∀ u ∈ us, u.data.length ≤ 1048576) :
    Calls Tryd.prog 45 #[.slice A n c] w fun e w' => ∃ A' c', ∃ vs : List Wrap, e = .returned (.slice A' n c') ∧ vs.map plW = us.map plW ∧ Rd w' w'.heap.size 6 A' n c' (vs.flatMap encWrap) ∧ (∀ a, A' = some a → w.heap.size ≤ a.block) ∧ (∀ v ∈ vs, DW w.heap.size w' v) ∧ Below w.heap.size w w' := by
  obtain ⟨i0, hi, hz0, hz1, hz2⟩ := info_parts Tryd.infoWrap
  have hc := hr.2.1
  have hm := hr.2.2.1
  unfold maxLen at hm
  go_enter Tryd.func45, Tryd.ntmps45
  go_wp2_with (at_make; refine wpList_make_full _ rfl _ _ 27 rfl w.heap.size 67 i0 _ 6 Tryd.underlying27 hi hz0 hz1 _ _ _ _ n rfl rfl rfl rfl ?_ ?_ ?_ ?_; rotate_right; intro w1 hown hgrow)
  case refine_1 => rw [hz2]; omega
  case refine_2 => unfold maxLen; omega
  case refine_3 => exact Nat.le_refl _
  have HB1 : Below w.heap.size w w1 := (Below.refl _ _).grown hgrow (Nat.le_refl _) (fun k hk => by cases hk)
  have hlt1 : w.heap.size < w1.heap.size := ((Own.of hown).lt w.heap.size rfl).2
  generalize (madeCells (Value.cells (.agg #[.int .i64 0, .int .i64 0, .string ByteArray.empty, .int .i64 0, .slice none 0 0, .int .i64 0])) (n * 6)).toList = cs0 at *
  clear hgrow
  go_loopw [4] (fun i wr => ∃ k : Nat, k ≤ n ∧ i = .int .i64 k ∧ Below w.heap.size w wr ∧ w.heap.size < wr.heap.size ∧ ∃ vs : List Wrap, Hid (vs.length = k ∧ vs.map plW = (us.take k).map plW ∧ ∀ v ∈ vs, DW (w.heap.size + 1) wr v) ∧ ∃ cs, wr.ownsRow w.heap.size 67 6 (.slice (some ⟨w.heap.size, 0, none⟩) n n) n cs ∧ Hid (cs.take (k * 6) = vs.flatMap encWrap)) (fun i _ => n - (intOf i).toNat)
  case atStart => exact ⟨0, Nat.zero_le _, rfl, HB1, hlt1, [], ⟨rfl, rfl, fun _ h => by cases h⟩, cs0, hown, by show _ = _; simp⟩
  case round =>
    clear HB1 hown hlt1
    obtain ⟨k, hk, rfl, HB, hws, vs, HV, cs, hown, HC⟩ := hrel
    by_cases hlt : k < n
    · obtain ⟨b, off, rfl, hb, hcell⟩ := hr.elem encWrap_len hn hlt
      have c0 := HB.cell (p := ⟨b, off + k * 6 + 0, none⟩) (by omega) |>.trans (hcell 0 _ rfl)
      have c1 := HB.cell (p := ⟨b, off + k * 6 + 1, none⟩) (by omega) |>.trans (hcell 1 _ rfl)
      have c2 := HB.cell (p := ⟨b, off + k * 6 + 2, none⟩) (by omega) |>.trans (hcell 2 _ rfl)
      have c3 := HB.cell (p := ⟨b, off + k * 6 + 3, none⟩) (by omega) |>.trans (hcell 3 _ rfl)
      have c4 := HB.cell (p := ⟨b, off + k * 6 + 4, none⟩) (by omega) |>.trans (hcell 4 _ rfl)
      have c5 := HB.cell (p := ⟨b, off + k * 6 + 5, none⟩) (by omega) |>.trans (hcell 5 _ rfl)
      simp only [Nat.add_zero] at c0
      have hz := HB.size
      have hkl : k < us.length := by omega
      have HPL : Hid ((us.take (k + 1)).map plW = vs.map plW ++ [plW us[k]]) := by show _ = _; rw [List.take_succ_eq_append_getElem hkl, List.map_append, ← HV.out.2.1]; rfl
      have hdk := (hd us[k] (List.getElem_mem hkl)).step HB
      have hlk := hdl us[k] (List.getElem_mem hkl)
      have HT : Hid (∀ v' : Wrap, (setL cs (k * 6) (encWrap v')).take ((k + 1) * 6) = (vs ++ [v']).flatMap encWrap) := by
        intro v'
        exact take_flat_new encWrap_len HV.out.1 hlt HC.out hown.1 v'
      clear hcell
      generalize us[k] = u at *
      obtain ⟨id, ends, kind, nonce, data, da, dc, tag⟩ := u
      dsimp only at c0 c1 c2 c3 c4 c5 hdk hlk
      go_wp2_with (go_at_call 71; refine (toWrap_hp ⟨id, ends, kind, nonce, data, da, dc, tag⟩ _ hdk.1 hlk).mono ?_; rintro e w1 ⟨A', c', rfl, h1⟩; have hb1 := h1.b; have hdn := h1.ok _ List.mem_cons_self; clear h1; have hown1 := own_grow hown hb1; obtain ⟨v0, hv0, d0⟩ := own_cell hown1 (j := k * 6 + 0) (by omega); have f0 := hown1.frozenAt (k * 6 + 0); obtain ⟨v1, hv1, d1⟩ := own_cell hown1 (j := k * 6 + 1) (by omega); have f1 := hown1.frozenAt (k * 6 + 1); obtain ⟨v2, hv2, d2⟩ := own_cell hown1 (j := k * 6 + 2) (by omega); have f2 := hown1.frozenAt (k * 6 + 2); obtain ⟨v3, hv3, d3⟩ := own_cell hown1 (j := k * 6 + 3) (by omega); have f3 := hown1.frozenAt (k * 6 + 3); obtain ⟨v4, hv4, d4⟩ := own_cell hown1 (j := k * 6 + 4) (by omega); have f4 := hown1.frozenAt (k * 6 + 4); obtain ⟨v5, hv5, d5⟩ := own_cell hown1 (j := k * 6 + 5) (by omega); have f5 := hown1.frozenAt (k * 6 + 5); simp only [Nat.add_zero] at d0 f0)
      have hnew : DW (w.heap.size + 1) w1 ⟨id, ends, kind, nonce, data, A', c', tag⟩ := by
        refine ⟨(Own.of hdn.p).rd, fun a ha => ?_⟩
        have hal := (hdn.lt a.block (by show (Value.slice A' data.length c').ownBlock = some a.block; have ha2 : A' = some a := ha; rw [ha2]; rfl)).1
        omega
      have HA : Hid (∀ v ∈ vs ++ [(⟨id, ends, kind, nonce, data, A', c', tag⟩ : Wrap)], DW (w.heap.size + 1) w1 v) := by
        intro v hv
        rcases List.mem_append.1 hv with hv | hv
        · exact (HV.out.2.2 v hv).step hb1
        · rw [List.mem_singleton.1 hv]; exact hnew
      have hws1 : w.heap.size < w1.heap.size := Nat.lt_of_lt_of_le hws hb1.size
      go_roundw
      case rel => exact ⟨k + 1, by omega, by go_num, (((((((blift HB hb1 hz).setCell (by simp) _).setCell (by simp) _).setCell (by simp) _).setCell (by simp) _).setCell (by simp) _).setCell (by simp) _), by simpa [World.setCell] using hws1, vs ++ [(⟨id, ends, kind, nonce, data, A', c', tag⟩ : Wrap)], ⟨by simp [HV.out.1], by rw [HPL.out, List.map_append]; rfl, fun v hv => ((((((HA.out v hv).set (by omega)).set (by omega)).set (by omega)).set (by omega)).set (by omega)).set (by omega)⟩, _, ((((((hown1.stored (k * 6) (.int .i64 id)).1.stored (k * 6 + 1) (.int .i64 ends)).1.stored (k * 6 + 2) (.string kind)).1.stored (k * 6 + 3) (.int .i64 nonce)).1.stored (k * 6 + 4) (.slice A' data.length c')).1.stored (k * 6 + 5) (.int .i64 tag)).1, Lib.hid (HT.out ⟨id, ends, kind, nonce, data, A', c', tag⟩)⟩
      case measure => simp [intOf]; omega
    · have hkn : k = n := by omega
      have HF : Hid (cs = vs.flatMap encWrap) := by
        have h2 := HC.out
        have h3 := HV.out.1
        rw [List.take_of_length_le (by rw [hown.1]; omega)] at h2
        exact h2
      have HG : Hid (vs.map plW = us.map plW) := by show _ = _; rw [HV.out.2.1, List.take_of_length_le (by omega)]
      go_wp2_with fail
      go_ret
      exact ⟨_, _, vs, rfl, HG.out, by rw [← HF.out]; exact (Own.of hown).rd, fun a ha => by cases ha; exact Nat.le_refl _, fun v hv => ⟨(HV.out.2.2 v hv).1, fun a ha => by have := (HV.out.2.2 v hv).2 a ha; omega⟩, HB⟩
set_option maxHeartbeats 2000000 in
theorem eqBox_any (nonce tag : Int) (A A' : Option Addr) (c c' : Nat) (bs : List UInt8) (w : World) (hr : Rd w w.heap.size 1 A bs.length c (bs.flatMap encByte)) (hr' : Rd w w.heap.size 1 A' bs.length c' (bs.flatMap encByte)) :
    Calls Tryd.prog 100 #[.agg #[.int .i64 nonce, .slice A bs.length c, .int .i64 tag], .agg #[.int .i64 nonce, .slice A' bs.length c', .int .i64 tag]] w fun e w' => e = .returned (.bool true) ∧ Below w.heap.size w w' := by
  have H := Hp.nil w
  go_enter Tryd.func100, Tryd.ntmps100
  go_wp2_with (go_at_call 23; refine (eqByteS_any A A' bs.length c c' bs _ (hr.grow (Hp.b (by repeat (first | (with_reducible exact H) | (with_reducible apply Hp.alloc) | (with_reducible apply Hp.set) | (with_reducible apply Hp.drew) | (with_reducible apply Hp.drewN) | (with_reducible apply Hp.bytesW) | (with_reducible exact Upd.here) | (with_reducible exact Upd.hereR) | (with_reducible apply Upd.there) | (with_reducible apply Sz.alloc) | (with_reducible apply Sz.set) | (with_reducible apply Sz.drew) | (with_reducible apply Sz.drewN) | (with_reducible apply Sz.bytesW) | (with_reducible assumption) | (with_reducible exact Sz.base _))))) (hr'.grow (Hp.b (by repeat (first | (with_reducible exact H) | (with_reducible apply Hp.alloc) | (with_reducible apply Hp.set) | (with_reducible apply Hp.drew) | (with_reducible apply Hp.drewN) | (with_reducible apply Hp.bytesW) | (with_reducible exact Upd.here) | (with_reducible exact Upd.hereR) | (with_reducible apply Upd.there) | (with_reducible apply Sz.alloc) | (with_reducible apply Sz.set) | (with_reducible apply Sz.drew) | (with_reducible apply Sz.drewN) | (with_reducible apply Sz.bytesW) | (with_reducible assumption) | (with_reducible exact Sz.base _))))) rfl).mono ?_; rintro e w1 ⟨rfl, h1⟩; replace H := Hp.step (by repeat (first | (with_reducible exact H) | (with_reducible apply Hp.alloc) | (with_reducible apply Hp.set) | (with_reducible apply Hp.drew) | (with_reducible apply Hp.drewN) | (with_reducible apply Hp.bytesW) | (with_reducible exact Upd.here) | (with_reducible exact Upd.hereR) | (with_reducible apply Upd.there) | (with_reducible apply Sz.alloc) | (with_reducible apply Sz.set) | (with_reducible apply Sz.drew) | (with_reducible apply Sz.drewN) | (with_reducible apply Sz.bytesW) | (with_reducible assumption) | (with_reducible exact Sz.base _))) h1; (try simp only [List.set_cons_zero, List.set_cons_succ, List.cons_append, List.nil_append] at H); clear h1; have F := H.facts; simp only [Facts, NeF, box, row, reg, cellsF, ne_eq, true_and, and_true, Nat.reduceAdd, Nat.zero_add] at F)
  go_ret
  exact ⟨rfl, Hp.b (by repeat (first | (with_reducible exact H) | (with_reducible apply Hp.alloc) | (with_reducible apply Hp.set) | (with_reducible apply Hp.drew) | (with_reducible apply Hp.drewN) | (with_reducible apply Hp.bytesW) | (with_reducible exact Upd.here) | (with_reducible exact Upd.hereR) | (with_reducible apply Upd.there) | (with_reducible apply Sz.alloc) | (with_reducible apply Sz.set) | (with_reducible apply Sz.drew) | (with_reducible apply Sz.drewN) | (with_reducible apply Sz.bytesW) | (with_reducible assumption) | (with_reducible exact Sz.base _)))⟩
set_option maxHeartbeats 2000000 in
theorem eqWrap_any (u v : Wrap) (hp : plW u = plW v) (w : World) (hu : DW 0 w u) (hv : DW 0 w v) :
    Calls Tryd.prog 75 #[valWrap u, valWrap v] w fun e w' => e = .returned (.bool true) ∧ Below w.heap.size w w' := by
  have H := Hp.nil w
  obtain ⟨id, ends, kind, nonce, data, da, dc, tag⟩ := u
  obtain ⟨id2, ends2, kind2, nonce2, data2, da2, dc2, tag2⟩ := v
  simp only [plW, Wrap.mk.injEq, true_and, and_true] at hp
  obtain ⟨rfl, rfl, rfl, rfl, rfl, rfl⟩ := hp
  have hu1 := hu.1
  have hv1 := hv.1
  dsimp only [valWrap] at *
  clear hu hv
  go_enter Tryd.func75, Tryd.ntmps75
  go_wp2_with (go_at_call 100; refine (eqBox_any nonce tag da da2 dc dc2 data _ (hu1.grow (Hp.b (by repeat (first | (with_reducible exact H) | (with_reducible apply Hp.alloc) | (with_reducible apply Hp.set) | (with_reducible apply Hp.drew) | (with_reducible apply Hp.drewN) | (with_reducible apply Hp.bytesW) | (with_reducible exact Upd.here) | (with_reducible exact Upd.hereR) | (with_reducible apply Upd.there) | (with_reducible apply Sz.alloc) | (with_reducible apply Sz.set) | (with_reducible apply Sz.drew) | (with_reducible apply Sz.drewN) | (with_reducible apply Sz.bytesW) | (with_reducible assumption) | (with_reducible exact Sz.base _))))) (hv1.grow (Hp.b (by repeat (first | (with_reducible exact H) | (with_reducible apply Hp.alloc) | (with_reducible apply Hp.set) | (with_reducible apply Hp.drew) | (with_reducible apply Hp.drewN) | (with_reducible apply Hp.bytesW) | (with_reducible exact Upd.here) | (with_reducible exact Upd.hereR) | (with_reducible apply Upd.there) | (with_reducible apply Sz.alloc) | (with_reducible apply Sz.set) | (with_reducible apply Sz.drew) | (with_reducible apply Sz.drewN) | (with_reducible apply Sz.bytesW) | (with_reducible assumption) | (with_reducible exact Sz.base _)))))).mono ?_; rintro e w1 ⟨rfl, h1⟩; replace H := Hp.step (by repeat (first | (with_reducible exact H) | (with_reducible apply Hp.alloc) | (with_reducible apply Hp.set) | (with_reducible apply Hp.drew) | (with_reducible apply Hp.drewN) | (with_reducible apply Hp.bytesW) | (with_reducible exact Upd.here) | (with_reducible exact Upd.hereR) | (with_reducible apply Upd.there) | (with_reducible apply Sz.alloc) | (with_reducible apply Sz.set) | (with_reducible apply Sz.drew) | (with_reducible apply Sz.drewN) | (with_reducible apply Sz.bytesW) | (with_reducible assumption) | (with_reducible exact Sz.base _))) h1; (try simp only [List.set_cons_zero, List.set_cons_succ, List.cons_append, List.nil_append] at H); clear h1; have F := H.facts; simp only [Facts, NeF, box, row, reg, cellsF, ne_eq, true_and, and_true, Nat.reduceAdd, Nat.zero_add] at F)
  go_ret
  exact ⟨rfl, Hp.b (by repeat (first | (with_reducible exact H) | (with_reducible apply Hp.alloc) | (with_reducible apply Hp.set) | (with_reducible apply Hp.drew) | (with_reducible apply Hp.drewN) | (with_reducible apply Hp.bytesW) | (with_reducible exact Upd.here) | (with_reducible exact Upd.hereR) | (with_reducible apply Upd.there) | (with_reducible apply Sz.alloc) | (with_reducible apply Sz.set) | (with_reducible apply Sz.drew) | (with_reducible apply Sz.drewN) | (with_reducible apply Sz.bytesW) | (with_reducible assumption) | (with_reducible exact Sz.base _)))⟩
set_option maxHeartbeats 2000000 in
theorem eqWrapS_any (A A' : Option Addr) (n c c' : Nat) (us vs : List Wrap) (w : World) (hr : Rd w w.heap.size 6 A n c (us.flatMap encWrap)) (hr' : Rd w w.heap.size 6 A' n c' (vs.flatMap encWrap)) (hn : us.length = n) (hp : us.map plW = vs.map plW) (hu : ∀ u ∈ us, DW 0 w u) (hv : ∀ u ∈ vs, DW 0 w u) :
    Calls Tryd.prog 47 #[.slice A n c, .slice A' n c'] w fun e w' => e = .returned (.bool true) ∧ Below w.heap.size w w' := by
  have hc := hr.2.1
  have hm := hr.2.2.1
  have hc' := hr'.2.1
  have hvl : vs.length = n := by rw [← plW_len hp]; exact hn
  unfold maxLen at hm
  go_enter Tryd.func47, Tryd.ntmps47
  go_wp2_with fail
  go_loopw [5] (fun i wr => ∃ k : Nat, k ≤ n ∧ i = .int .i64 k ∧ Below w.heap.size w wr) (fun i _ => n - (intOf i).toNat)
  case atStart => exact ⟨0, Nat.zero_le _, rfl, Below.refl _ _⟩
  case round =>
    obtain ⟨k, hk, rfl, HB⟩ := hrel
    by_cases hlt : k < n
    · obtain ⟨b, off, rfl, hb, hcell⟩ := hr.elem encWrap_len hn hlt
      obtain ⟨b', off', rfl, hb', hcell'⟩ := hr'.elem encWrap_len hvl hlt
      have hz := HB.size
      have c0 := HB.cell (p := ⟨b, off + k * 6 + 0, none⟩) hb |>.trans (hcell 0 _ rfl)
      have e0 := HB.cell (p := ⟨b', off' + k * 6 + 0, none⟩) hb' |>.trans (hcell' 0 _ rfl)
      have c1 := HB.cell (p := ⟨b, off + k * 6 + 1, none⟩) hb |>.trans (hcell 1 _ rfl)
      have e1 := HB.cell (p := ⟨b', off' + k * 6 + 1, none⟩) hb' |>.trans (hcell' 1 _ rfl)
      have c2 := HB.cell (p := ⟨b, off + k * 6 + 2, none⟩) hb |>.trans (hcell 2 _ rfl)
      have e2 := HB.cell (p := ⟨b', off' + k * 6 + 2, none⟩) hb' |>.trans (hcell' 2 _ rfl)
      have c3 := HB.cell (p := ⟨b, off + k * 6 + 3, none⟩) hb |>.trans (hcell 3 _ rfl)
      have e3 := HB.cell (p := ⟨b', off' + k * 6 + 3, none⟩) hb' |>.trans (hcell' 3 _ rfl)
      have c4 := HB.cell (p := ⟨b, off + k * 6 + 4, none⟩) hb |>.trans (hcell 4 _ rfl)
      have e4 := HB.cell (p := ⟨b', off' + k * 6 + 4, none⟩) hb' |>.trans (hcell' 4 _ rfl)
      have c5 := HB.cell (p := ⟨b, off + k * 6 + 5, none⟩) hb |>.trans (hcell 5 _ rfl)
      have e5 := HB.cell (p := ⟨b', off' + k * 6 + 5, none⟩) hb' |>.trans (hcell' 5 _ rfl)
      simp only [Nat.add_zero] at c0 e0
      have hpk := plW_at hp k (by omega) (by omega)
      have hdu := (hu us[k] (List.getElem_mem _)).step HB
      have hdv := (hv vs[k] (List.getElem_mem _)).step HB
      have HEQ : Hid (∀ W, Below wr.heap.size wr W → Calls Tryd.prog 75 #[valWrap us[k], valWrap vs[k]] W fun e w' => e = .returned (.bool true) ∧ Below W.heap.size W w') := fun W h => eqWrap_any _ _ hpk W (hdu.step h) (hdv.step h)
      clear hcell hcell' hpk hdu hdv
      generalize us[k] = u at *
      generalize vs[k] = v at *
      obtain ⟨id, ends, kind, nonce, data, da, dc, tag⟩ := u
      obtain ⟨id2, ends2, kind2, nonce2, data2, da2, dc2, tag2⟩ := v
      dsimp only [valWrap] at *
      have hk1 : (k : Int) < (n : Int) := by omega
      go_wp2_with fail
      go_region_with (go_at_call 75; refine (HEQ.out _ (by first | exact Below.refl _ _ | exact (Below.refl _ _).drew | exact below_drewN (Below.refl _ _) _)).mono ?_; rintro e w1 ⟨rfl, hb1⟩)
      all_goals
        go_wp2
        go_roundw
        case rel => exact ⟨k + 1, by omega, by go_num, blift HB.drew hb1 hz⟩
        case measure => simp [intOf]; omega
    · go_wp2_with fail
      go_ret
      exact ⟨rfl, HB⟩
theorem leftOf_m1 {left : Int} {n : Nat} (h : leftOf left n < 0) : leftOf left n = -1 := by
  unfold leftOf at *
  split at h <;> omega
set_option maxHeartbeats 2000000 in
theorem szBox_any (nonce tag : Int) (A : Option Addr) (c : Nat) (bs : List UInt8) (left : Int) (w : World) (hr : Rd w w.heap.size 1 A bs.length c (bs.flatMap encByte)) (h0 : 0 ≤ left) (h1 : left ≤ 1048576) :
    Calls Tryd.prog 94 #[.agg #[.int .i64 nonce, .slice A bs.length c, .int .i64 tag], .int .i64 left] w fun e w' => e = .returned (.int .i64 (leftOf left bs.length)) ∧ Below w.heap.size w w' := by
  have H := Hp.nil w
  by_cases hx : leftOf left bs.length < 0
  · have hy : leftOf left bs.length = -1 := leftOf_m1 hx
    go_enter Tryd.func94, Tryd.ntmps94
    go_wp2_with (go_at_call 108; refine (szByteS_any A bs.length c bs left _ (hr.grow (Hp.b (by repeat (first | (with_reducible exact H) | (with_reducible apply Hp.alloc) | (with_reducible apply Hp.set) | (with_reducible apply Hp.drew) | (with_reducible apply Hp.drewN) | (with_reducible apply Hp.bytesW) | (with_reducible exact Upd.here) | (with_reducible exact Upd.hereR) | (with_reducible apply Upd.there) | (with_reducible apply Sz.alloc) | (with_reducible apply Sz.set) | (with_reducible apply Sz.drew) | (with_reducible apply Sz.drewN) | (with_reducible apply Sz.bytesW) | (with_reducible assumption) | (with_reducible exact Sz.base _))))) rfl h0 h1).mono ?_; rintro e w1 ⟨rfl, h1⟩; replace H := Hp.step (by repeat (first | (with_reducible exact H) | (with_reducible apply Hp.alloc) | (with_reducible apply Hp.set) | (with_reducible apply Hp.drew) | (with_reducible apply Hp.drewN) | (with_reducible apply Hp.bytesW) | (with_reducible exact Upd.here) | (with_reducible exact Upd.hereR) | (with_reducible apply Upd.there) | (with_reducible apply Sz.alloc) | (with_reducible apply Sz.set) | (with_reducible apply Sz.drew) | (with_reducible apply Sz.drewN) | (with_reducible apply Sz.bytesW) | (with_reducible assumption) | (with_reducible exact Sz.base _))) h1; (try simp only [List.set_cons_zero, List.set_cons_succ, List.cons_append, List.nil_append] at H); clear h1; have F := H.facts; simp only [Facts, NeF, box, row, reg, cellsF, ne_eq, true_and, and_true, Nat.reduceAdd, Nat.zero_add] at F)
    go_ret
    exact ⟨by rw [hy]; rfl, Hp.b (by repeat (first | (with_reducible exact H) | (with_reducible apply Hp.alloc) | (with_reducible apply Hp.set) | (with_reducible apply Hp.drew) | (with_reducible apply Hp.drewN) | (with_reducible apply Hp.bytesW) | (with_reducible exact Upd.here) | (with_reducible exact Upd.hereR) | (with_reducible apply Upd.there) | (with_reducible apply Sz.alloc) | (with_reducible apply Sz.set) | (with_reducible apply Sz.drew) | (with_reducible apply Sz.drewN) | (with_reducible apply Sz.bytesW) | (with_reducible assumption) | (with_reducible exact Sz.base _)))⟩
  · go_enter Tryd.func94, Tryd.ntmps94
    go_wp2_with (go_at_call 108; refine (szByteS_any A bs.length c bs left _ (hr.grow (Hp.b (by repeat (first | (with_reducible exact H) | (with_reducible apply Hp.alloc) | (with_reducible apply Hp.set) | (with_reducible apply Hp.drew) | (with_reducible apply Hp.drewN) | (with_reducible apply Hp.bytesW) | (with_reducible exact Upd.here) | (with_reducible exact Upd.hereR) | (with_reducible apply Upd.there) | (with_reducible apply Sz.alloc) | (with_reducible apply Sz.set) | (with_reducible apply Sz.drew) | (with_reducible apply Sz.drewN) | (with_reducible apply Sz.bytesW) | (with_reducible assumption) | (with_reducible exact Sz.base _))))) rfl h0 h1).mono ?_; rintro e w1 ⟨rfl, h1⟩; replace H := Hp.step (by repeat (first | (with_reducible exact H) | (with_reducible apply Hp.alloc) | (with_reducible apply Hp.set) | (with_reducible apply Hp.drew) | (with_reducible apply Hp.drewN) | (with_reducible apply Hp.bytesW) | (with_reducible exact Upd.here) | (with_reducible exact Upd.hereR) | (with_reducible apply Upd.there) | (with_reducible apply Sz.alloc) | (with_reducible apply Sz.set) | (with_reducible apply Sz.drew) | (with_reducible apply Sz.drewN) | (with_reducible apply Sz.bytesW) | (with_reducible assumption) | (with_reducible exact Sz.base _))) h1; (try simp only [List.set_cons_zero, List.set_cons_succ, List.cons_append, List.nil_append] at H); clear h1; have F := H.facts; simp only [Facts, NeF, box, row, reg, cellsF, ne_eq, true_and, and_true, Nat.reduceAdd, Nat.zero_add] at F)
    go_ret
    exact ⟨rfl, Hp.b (by repeat (first | (with_reducible exact H) | (with_reducible apply Hp.alloc) | (with_reducible apply Hp.set) | (with_reducible apply Hp.drew) | (with_reducible apply Hp.drewN) | (with_reducible apply Hp.bytesW) | (with_reducible exact Upd.here) | (with_reducible exact Upd.hereR) | (with_reducible apply Upd.there) | (with_reducible apply Sz.alloc) | (with_reducible apply Sz.set) | (with_reducible apply Sz.drew) | (with_reducible apply Sz.drewN) | (with_reducible apply Sz.bytesW) | (with_reducible assumption) | (with_reducible exact Sz.base _)))⟩
set_option maxHeartbeats 2000000 in
theorem szWrap_any (u : Wrap) (left : Int) (w : World) (h0 : 0 ≤ left) (h1 : left ≤ 1048576) (hk : u.kind.size ≤ maxLen) (hd : DW 0 w u) :
    Calls Tryd.prog 69 #[valWrap u, .int .i64 left] w fun e w' => e = .returned (.int .i64 (leftOf left (szWrap u))) ∧ Below w.heap.size w w' := by
  have H := Hp.nil w
  have hr := hd.1
  unfold maxLen at hk
  have HE : Hid (szWrap u = u.kind.size + u.data.length) := rfl
  generalize szWrap u = sz at *
  obtain ⟨id, ends, kind, nonce, data, da, dc, tag⟩ := u
  dsimp only [valWrap] at *
  by_cases c0 : left - (kind.size : Int) < 0
  · have HL : Hid (leftOf left sz = -1) := by have := HE.out; show _ = _; rw [leftOf, if_neg (by omega)]
    clear HE
    go_enter Tryd.func69, Tryd.ntmps69
    go_wp2_with fail
    go_ret
    exact ⟨by rw [HL.out]; rfl, Hp.b (by repeat (first | (with_reducible exact H) | (with_reducible apply Hp.alloc) | (with_reducible apply Hp.set) | (with_reducible apply Hp.drew) | (with_reducible apply Hp.drewN) | (with_reducible apply Hp.bytesW) | (with_reducible exact Upd.here) | (with_reducible exact Upd.hereR) | (with_reducible apply Upd.there) | (with_reducible apply Sz.alloc) | (with_reducible apply Sz.set) | (with_reducible apply Sz.drew) | (with_reducible apply Sz.drewN) | (with_reducible apply Sz.bytesW) | (with_reducible assumption) | (with_reducible exact Sz.base _)))⟩
  by_cases hx : leftOf (left - (kind.size : Int)) data.length < 0
  · have HL : Hid (leftOf left sz = -1) := by have := HE.out; have := leftOf_neg hx; show _ = _; rw [leftOf, if_neg (by omega)]
    clear HE
    go_enter Tryd.func69, Tryd.ntmps69
    go_wp2_with (go_at_call 94; refine (szBox_any nonce tag da dc data _ _ (hr.grow (Hp.b (by repeat (first | (with_reducible exact H) | (with_reducible apply Hp.alloc) | (with_reducible apply Hp.set) | (with_reducible apply Hp.drew) | (with_reducible apply Hp.drewN) | (with_reducible apply Hp.bytesW) | (with_reducible exact Upd.here) | (with_reducible exact Upd.hereR) | (with_reducible apply Upd.there) | (with_reducible apply Sz.alloc) | (with_reducible apply Sz.set) | (with_reducible apply Sz.drew) | (with_reducible apply Sz.drewN) | (with_reducible apply Sz.bytesW) | (with_reducible assumption) | (with_reducible exact Sz.base _))))) (by omega) (by omega)).mono ?_; rintro e w1 ⟨rfl, q1⟩; replace H := Hp.step (by repeat (first | (with_reducible exact H) | (with_reducible apply Hp.alloc) | (with_reducible apply Hp.set) | (with_reducible apply Hp.drew) | (with_reducible apply Hp.drewN) | (with_reducible apply Hp.bytesW) | (with_reducible exact Upd.here) | (with_reducible exact Upd.hereR) | (with_reducible apply Upd.there) | (with_reducible apply Sz.alloc) | (with_reducible apply Sz.set) | (with_reducible apply Sz.drew) | (with_reducible apply Sz.drewN) | (with_reducible apply Sz.bytesW) | (with_reducible assumption) | (with_reducible exact Sz.base _))) q1; (try simp only [List.set_cons_zero, List.set_cons_succ, List.cons_append, List.nil_append] at H); clear q1; have F := H.facts; simp only [Facts, NeF, box, row, reg, cellsF, ne_eq, true_and, and_true, Nat.reduceAdd, Nat.zero_add] at F)
    go_ret
    exact ⟨by rw [HL.out]; rfl, Hp.b (by repeat (first | (with_reducible exact H) | (with_reducible apply Hp.alloc) | (with_reducible apply Hp.set) | (with_reducible apply Hp.drew) | (with_reducible apply Hp.drewN) | (with_reducible apply Hp.bytesW) | (with_reducible exact Upd.here) | (with_reducible exact Upd.hereR) | (with_reducible apply Upd.there) | (with_reducible apply Sz.alloc) | (with_reducible apply Sz.set) | (with_reducible apply Sz.drew) | (with_reducible apply Sz.drewN) | (with_reducible apply Sz.bytesW) | (with_reducible assumption) | (with_reducible exact Sz.base _)))⟩
  · have HL : Hid (leftOf left sz = leftOf (left - (kind.size : Int)) data.length) := by have := HE.out; have h9 := leftOf_nn (show 0 ≤ leftOf (left - (kind.size : Int)) data.length by omega); show _ = _; rw [h9.2, leftOf, if_pos (by omega)]; omega
    clear HE
    go_enter Tryd.func69, Tryd.ntmps69
    go_wp2_with (go_at_call 94; refine (szBox_any nonce tag da dc data _ _ (hr.grow (Hp.b (by repeat (first | (with_reducible exact H) | (with_reducible apply Hp.alloc) | (with_reducible apply Hp.set) | (with_reducible apply Hp.drew) | (with_reducible apply Hp.drewN) | (with_reducible apply Hp.bytesW) | (with_reducible exact Upd.here) | (with_reducible exact Upd.hereR) | (with_reducible apply Upd.there) | (with_reducible apply Sz.alloc) | (with_reducible apply Sz.set) | (with_reducible apply Sz.drew) | (with_reducible apply Sz.drewN) | (with_reducible apply Sz.bytesW) | (with_reducible assumption) | (with_reducible exact Sz.base _))))) (by omega) (by omega)).mono ?_; rintro e w1 ⟨rfl, q1⟩; replace H := Hp.step (by repeat (first | (with_reducible exact H) | (with_reducible apply Hp.alloc) | (with_reducible apply Hp.set) | (with_reducible apply Hp.drew) | (with_reducible apply Hp.drewN) | (with_reducible apply Hp.bytesW) | (with_reducible exact Upd.here) | (with_reducible exact Upd.hereR) | (with_reducible apply Upd.there) | (with_reducible apply Sz.alloc) | (with_reducible apply Sz.set) | (with_reducible apply Sz.drew) | (with_reducible apply Sz.drewN) | (with_reducible apply Sz.bytesW) | (with_reducible assumption) | (with_reducible exact Sz.base _))) q1; (try simp only [List.set_cons_zero, List.set_cons_succ, List.cons_append, List.nil_append] at H); clear q1; have F := H.facts; simp only [Facts, NeF, box, row, reg, cellsF, ne_eq, true_and, and_true, Nat.reduceAdd, Nat.zero_add] at F)
    go_ret
    exact ⟨by rw [HL.out]; rfl, Hp.b (by repeat (first | (with_reducible exact H) | (with_reducible apply Hp.alloc) | (with_reducible apply Hp.set) | (with_reducible apply Hp.drew) | (with_reducible apply Hp.drewN) | (with_reducible apply Hp.bytesW) | (with_reducible exact Upd.here) | (with_reducible exact Upd.hereR) | (with_reducible apply Upd.there) | (with_reducible apply Sz.alloc) | (with_reducible apply Sz.set) | (with_reducible apply Sz.drew) | (with_reducible apply Sz.drewN) | (with_reducible apply Sz.bytesW) | (with_reducible assumption) | (with_reducible exact Sz.base _)))⟩
set_option maxHeartbeats 2000000 in
theorem szWrapS_any (A : Option Addr) (n c : Nat) (us : List Wrap) (left : Int) (w : World) (hr : Rd w w.heap.size 6 A n c (us.flatMap encWrap)) (hn : us.length = n) (h0 : 0 ≤ left) (h1 : left ≤ 1048576) (hf : ∀ u ∈ us, u.kind.size ≤ maxLen) (hd : ∀ u ∈ us, DW 0 w u) :
    Calls Tryd.prog 41 #[.slice A n c, .int .i64 left] w fun e w' => e = .returned (.int .i64 (leftOf left (n + sumWrap us))) ∧ Below w.heap.size w w' := by
  have hc := hr.2.1
  have hm := hr.2.2.1
  unfold maxLen at hm
  by_cases c1 : left - (n : Int) < 0
  · go_enter Tryd.func41, Tryd.ntmps41
    go_wp2_with fail
    go_ret
    exact ⟨by rw [leftOf, if_neg (by omega)]; rfl, Below.refl _ _⟩
  · go_enter Tryd.func41, Tryd.ntmps41
    go_wp2_with fail
    go_loopw [1, 5] (fun l i wr => ∃ k : Nat, k ≤ n ∧ i = .int .i64 k ∧ ∃ m : Int, l = .int .i64 m ∧ 0 ≤ m ∧ m ≤ 1048576 ∧ Hid (m = left - n - sumWrap (us.take k)) ∧ Below w.heap.size w wr) (fun _ i _ => n - (intOf i).toNat)
    case atStart => exact ⟨0, Nat.zero_le _, rfl, _, rfl, by omega, by omega, by show _ = _; simp [sumWrap], Below.refl _ _⟩
    case round =>
      obtain ⟨k, hk, rfl, m, rfl, hm0, hm1, HM, HB⟩ := hrel
      by_cases hlt : k < n
      · obtain ⟨b, off, rfl, hb, hcell⟩ := hr.elem encWrap_len hn hlt
        have c0 := HB.cell (p := ⟨b, off + k * 6 + 0, none⟩) hb |>.trans (hcell 0 _ rfl)
        have c1 := HB.cell (p := ⟨b, off + k * 6 + 1, none⟩) hb |>.trans (hcell 1 _ rfl)
        have c2 := HB.cell (p := ⟨b, off + k * 6 + 2, none⟩) hb |>.trans (hcell 2 _ rfl)
        have c3 := HB.cell (p := ⟨b, off + k * 6 + 3, none⟩) hb |>.trans (hcell 3 _ rfl)
        have c4 := HB.cell (p := ⟨b, off + k * 6 + 4, none⟩) hb |>.trans (hcell 4 _ rfl)
        have c5 := HB.cell (p := ⟨b, off + k * 6 + 5, none⟩) hb |>.trans (hcell 5 _ rfl)
        simp only [Nat.add_zero] at c0
        have hfk := hf us[k] (List.getElem_mem (by omega))
        have hdk := (hd us[k] (List.getElem_mem (by omega))).step HB
        have HS : Hid (sumWrap (us.take (k + 1)) = sumWrap (us.take k) + szWrap us[k]) := sumWrap_take (by omega)
        have HL : Hid (sumWrap (us.take (k + 1)) ≤ sumWrap us) := sumWrap_le us (k + 1)
        have hz := HB.size
        clear hcell
        have HZ : Hid (∀ W, Below wr.heap.size wr W → Calls Tryd.prog 69 #[valWrap us[k], .int .i64 m] W fun e w' => e = .returned (.int .i64 (leftOf m (szWrap us[k]))) ∧ Below W.heap.size W w') := fun W h => szWrap_any us[k] m W hm0 hm1 hfk (hdk.step h)
        generalize hsz : szWrap us[k] = sz at *
        clear hsz hfk hdk
        generalize us[k] = u at *
        obtain ⟨id, ends, kind, nonce, data, da, dc, tag⟩ := u
        dsimp only [valWrap] at *
        go_wp2_with (go_at_call 69; refine (HZ.out _ (Below.refl _ _)).mono ?_; rintro e w1 ⟨rfl, hb1⟩)
        · go_ret
          have hx : leftOf m sz < 0 := by assumption
          have HN : leftOf left (n + sumWrap us) = -1 := by
            have := leftOf_neg hx; have := HM.out; have := HS.out; have := HL.out
            rw [leftOf, if_neg (by omega)]
          exact ⟨by rw [HN]; rfl, blift HB hb1 hz⟩
        · have hx : 0 ≤ leftOf m sz := by assumption
          have hx' := leftOf_nn hx
          go_roundw
          case rel => exact ⟨k + 1, by omega, by go_num, _, rfl, hx, by omega, by have := HM.out; have := HS.out; show _ = _; omega, blift HB hb1 hz⟩
          case measure => simp [intOf]; omega
      · have HF : Hid (m = leftOf left (n + sumWrap us)) := by
          have h2 := HM.out
          rw [List.take_of_length_le (by omega)] at h2
          show _ = _
          rw [leftOf, if_pos (by omega)]; omega
        go_wp2_with fail
        go_ret
        exact ⟨by rw [← HF.out]; simp, HB⟩
end Go.Proofs.YtiooaephjjkgdaaDoor

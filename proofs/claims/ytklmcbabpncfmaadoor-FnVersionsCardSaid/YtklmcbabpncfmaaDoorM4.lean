/- Stores: a version put (the reference's), every road; up to where the memory lies. No condition. -/
import Derived.Test.YtklmcbabpncfmaaDoorKvR1
import Derived.Test.YtklmcbabpncfmaaDoorKvR2
import Derived.Test.YtklmcbabpncfmaaDoorKvS1
import Derived.Test.YtklmcbabpncfmaaDoorKvS2
import Derived.Test.YtklmcbabpncfmaaDoorKvN
import Derived.Test.YtklmcbabpncfmaaDoorM2
import Derived.Test.YtklmcbabpncfmaaDoorKvD
import Derived.Test.YtklmcbabpncfmaaDoorKvG
import Derived.Test.YtklmcbabpncfmaaDoorKvH
import Derived.Test.YtklmcbabpncfmaaDoorStoreC
import Derived.Test.YtklmcbabpncfmaaDoorLwGetKv
import Derived.Deep.DeepCutAuto
import Derived.Deep.RegionHeld3
import Derived.Deep.RegionLaw
namespace Go.Proofs.YtklmcbabpncfmaaDoor
open Go.RowKit
set_option linter.unusedVariables false
theorem specPutKv_hp (A : Option Addr) (n c : Nat) (us : List Entry) (s : ByteArray) (LA : Option Addr) (ln lc : Nat) (ls : List UInt8) (cas now : Int) (rs : List Entry) (rc rm : Int) (w : World) (hdr : putK us s ls cas now = (rs, rc, rm)) (hr : Rd w w.heap.size 3 A n c (us.flatMap encEntry)) (hn : us.length = n) (hb20 : n ≤ 1048576) (hsz : ∀ u ∈ us, u.path.size ≤ maxLen) (hd : ∀ u ∈ us, DE 0 w u) (hvl : ∀ u ∈ us, u.vs.length ≤ 1048576) (hdl : ∀ u ∈ us, ∀ v ∈ u.vs, v.data.length ≤ 1048576) (hrl : Rd w w.heap.size 1 LA ln lc (ls.flatMap encByte)) (hnl : ls.length = ln) (hlb : ln ≤ 1048576) (hs : s.size ≤ maxLen) :
    Calls Tryd.prog 8 #[.agg #[.slice A n c], .string s, .slice LA ln lc, .int .i64 cas, .int .i64 now] w fun e w' => ∃ A' c', ∃ vs : List Entry, e = .returned (.tuple #[.agg #[.slice A' rs.length c'], .int .i64 rc, .int .i64 rm]) ∧ vs.map plE = rs.map plE ∧ vs.length = rs.length ∧ Hp w w' [stoX A' c' rs.length vs] := by
  by_cases hq : storeOk us = true ∧ pathF s = true ∧ ls.length ≤ 300 ∧ inR now 0 1000000000 = true ∧ ¬ (0 ≤ cas ∧ ¬ cas = curK us s)
  · obtain ⟨h1, h2, h3, h4, h5⟩ := hq
    rcases ixP_spec (hasP s) us 0 with ⟨hx, hall⟩ | ⟨i, hi, hx, hhit, -⟩
    · have hcu : curK us s = 0 := by rw [curK, hx, if_neg (by omega)]
      rw [hcu] at h5
      exact specPutKvB_hp A n c us s LA ln lc ls cas now rs rc rm w hdr hr hn hb20 hsz hd hvl hdl hrl hnl hlb hs h1 h2 h3 h4 (by omega) hall
    · rw [Nat.zero_add] at hx
      have hcu : curK us s = lastE us[i] := by rw [curK, hx, if_pos (by omega), Int.toNat_natCast, List.getElem?_eq_getElem hi]; rfl
      rw [hcu] at h5
      exact specPutKvC_hp A n c us s LA ln lc ls cas now rs rc rm w hdr hr hn hb20 hsz hd hvl hdl hrl hnl hlb hs h1 h2 h3 h4 i hi hx (by omega)
  · refine specPutKvA_hp A n c us s LA ln lc ls cas now rs rc rm w hdr hr hn hb20 hsz hd hvl hdl hrl hnl hlb hs (fun h1 h2 h3 h4 => ?_)
    exact Decidable.not_not.1 fun h5 => hq ⟨h1, h2, h3, h4, h5⟩
end Go.Proofs.YtklmcbabpncfmaaDoor
namespace Go.Proofs.YtklmcbabpncfmaaDoor
open Go.RowKit
set_option linter.unusedVariables false
set_option linter.unusedSimpArgs false
theorem putKv_hp (A : Option Addr) (n c : Nat) (us : List Entry) (s : ByteArray) (LA : Option Addr) (ln lc : Nat) (ls : List UInt8) (cas now : Int) (rs : List Entry) (rc rm : Int) (w : World) (hdr : putK us s ls cas now = (rs, rc, rm)) (hr : Rd w w.heap.size 3 A n c (us.flatMap encEntry)) (hn : us.length = n) (hb20 : n ≤ 1048576) (hsz : ∀ u ∈ us, u.path.size ≤ maxLen) (hd : ∀ u ∈ us, DE 0 w u) (hvl : ∀ u ∈ us, u.vs.length ≤ 1048576) (hdl : ∀ u ∈ us, ∀ v ∈ u.vs, v.data.length ≤ 1048576) (hrl : Rd w w.heap.size 1 LA ln lc (ls.flatMap encByte)) (hnl : ls.length = ln) (hlb : ln ≤ 1048576) (hs : s.size ≤ maxLen) (hml : mlOk w) (h1 : storeOk us = true) :
    Calls Tryd.prog 42 #[.agg #[.slice A n c], .string s, .slice LA ln lc, .int .i64 cas, .int .i64 now] w fun e w' => ∃ A' c', ∃ vs : List Entry, e = .returned (.tuple #[.agg #[.slice A' rs.length c'], .int .i64 rc, .int .i64 rm]) ∧ vs.map plE = rs.map plE ∧ vs.length = rs.length ∧ Hp w w' [stoX A' c' rs.length vs] := by
  by_cases hq : pathF s = true ∧ ls.length ≤ 300 ∧ inR now 0 1000000000 = true ∧ ¬ (0 ≤ cas ∧ ¬ cas = curK us s)
  · obtain ⟨h2, h3, h4, h5⟩ := hq
    rcases ixP_spec (hasP s) us 0 with ⟨hx, hall⟩ | ⟨i, hi, hx, hhit, -⟩
    · have hcu : curK us s = 0 := by rw [curK, hx, if_neg (by omega)]
      rw [hcu] at h5
      exact putKvB_hp A n c us s LA ln lc ls cas now rs rc rm w hdr hr hn hb20 hsz hd hvl hdl hrl hnl hlb hs hml h1 h2 h3 h4 (by omega) hall
    · rw [Nat.zero_add] at hx
      have hcu : curK us s = lastE us[i] := by rw [curK, hx, if_pos (by omega), Int.toNat_natCast, List.getElem?_eq_getElem hi]; rfl
      rw [hcu] at h5
      exact putKvC_hp A n c us s LA ln lc ls cas now rs rc rm w hdr hr hn hb20 hsz hd hvl hdl hrl hnl hlb hs hml h1 h2 h3 h4 i hi hx (eqB_iff.1 hhit) (by omega)
  · refine putKvA_hp A n c us s LA ln lc ls cas now rs rc rm w hdr hr hn hb20 hsz hd hvl hdl hrl hnl hlb hs hml h1 (fun h2 h3 h4 => ?_)
    exact Decidable.not_not.1 fun h5 => hq ⟨h2, h3, h4, h5⟩
set_option maxHeartbeats 8000000 in
set_option maxRecDepth 10000 in
theorem implPutKv_hp (A : Option Addr) (n c : Nat) (us : List Entry) (s : ByteArray) (LA : Option Addr) (ln lc : Nat) (ls : List UInt8) (cas now : Int) (rs : List Entry) (rc rm : Int) (w : World) (hdr : putK us s ls cas now = (rs, rc, rm)) (hr : Rd w w.heap.size 3 A n c (us.flatMap encEntry)) (hn : us.length = n) (hb20 : n ≤ 1048576) (hsz : ∀ u ∈ us, u.path.size ≤ maxLen) (hd : ∀ u ∈ us, DE 0 w u) (hvl : ∀ u ∈ us, u.vs.length ≤ 1048576) (hdl : ∀ u ∈ us, ∀ v ∈ u.vs, v.data.length ≤ 1048576) (hrl : Rd w w.heap.size 1 LA ln lc (ls.flatMap encByte)) (hnl : ls.length = ln) (hlb : ln ≤ 1048576) (hs : s.size ≤ maxLen) (hml : mlOk w) :
    Calls Tryd.prog 9 #[.agg #[.slice A n c], .string s, .slice LA ln lc, .int .i64 cas, .int .i64 now] w fun e w' => ∃ A' c', ∃ vs : List Entry, e = .returned (.tuple #[.agg #[.slice A' rs.length c'], .int .i64 rc, .int .i64 rm]) ∧ vs.map plE = rs.map plE ∧ vs.length = rs.length ∧ Hp w w' [stoX A' c' rs.length vs] := by
  have H := Hp.nil w
  cases h1 : storeOk us with
  | false =>
    have HR : Hid ((us, (1 : Int), (0 : Int)) = (rs, rc, rm)) := by show _ = _; rw [← hdr, putK, if_neg (by simp [h1])]
    clear hdr
    subst hn
    go_enter Tryd.func9, Tryd.ntmps9
    go_wp2_with (first | (go_at_call 40; refine (isStore_any A us.length c us _ (hr.grow (Hp.b (by repeat (first | (with_reducible exact H) | (with_reducible apply Hp.alloc) | (with_reducible apply Hp.set) | (with_reducible apply Hp.drew) | (with_reducible apply Hp.drewN) | (with_reducible apply Hp.bytesW) | (with_reducible exact Upd.here) | (with_reducible exact Upd.hereR) | (with_reducible apply Upd.there) | (with_reducible apply Sz.alloc) | (with_reducible apply Sz.set) | (with_reducible apply Sz.drew) | (with_reducible apply Sz.drewN) | (with_reducible apply Sz.bytesW) | (with_reducible assumption) | (with_reducible exact Sz.base _))))) rfl hsz (fun u hu => (hd u hu).step (Hp.b (by repeat (first | (with_reducible exact H) | (with_reducible apply Hp.alloc) | (with_reducible apply Hp.set) | (with_reducible apply Hp.drew) | (with_reducible apply Hp.drewN) | (with_reducible apply Hp.bytesW) | (with_reducible exact Upd.here) | (with_reducible exact Upd.hereR) | (with_reducible apply Upd.there) | (with_reducible apply Sz.alloc) | (with_reducible apply Sz.set) | (with_reducible apply Sz.drew) | (with_reducible apply Sz.drewN) | (with_reducible apply Sz.bytesW) | (with_reducible assumption) | (with_reducible exact Sz.base _))))) (hml.on (Hp.b (by repeat (first | (with_reducible exact H) | (with_reducible apply Hp.alloc) | (with_reducible apply Hp.set) | (with_reducible apply Hp.drew) | (with_reducible apply Hp.drewN) | (with_reducible apply Hp.bytesW) | (with_reducible exact Upd.here) | (with_reducible exact Upd.hereR) | (with_reducible apply Upd.there) | (with_reducible apply Sz.alloc) | (with_reducible apply Sz.set) | (with_reducible apply Sz.drew) | (with_reducible apply Sz.drewN) | (with_reducible apply Sz.bytesW) | (with_reducible assumption) | (with_reducible exact Sz.base _)))))).mono ?_; rintro e w4 ⟨rfl, q4⟩; rw [h1]; replace H := Hp.step (by repeat (first | (with_reducible exact H) | (with_reducible apply Hp.alloc) | (with_reducible apply Hp.set) | (with_reducible apply Hp.drew) | (with_reducible apply Hp.drewN) | (with_reducible apply Hp.bytesW) | (with_reducible exact Upd.here) | (with_reducible exact Upd.hereR) | (with_reducible apply Upd.there) | (with_reducible apply Sz.alloc) | (with_reducible apply Sz.set) | (with_reducible apply Sz.drew) | (with_reducible apply Sz.drewN) | (with_reducible apply Sz.bytesW) | (with_reducible assumption) | (with_reducible exact Sz.base _))) q4; (try simp only [List.set_cons_zero, List.set_cons_succ, List.cons_append, List.nil_append] at H); clear q4; (try clear F); have F := H.facts; simp only [Facts, NeF, box, row, reg, cellsF, rByte, ne_eq, true_and, and_true, Nat.reduceAdd, Nat.zero_add] at F) | (go_at_call 41; refine (cloneStore_hp _ us.length c us _ (hr.grow (Hp.b (by repeat (first | (with_reducible exact H) | (with_reducible apply Hp.alloc) | (with_reducible apply Hp.set) | (with_reducible apply Hp.drew) | (with_reducible apply Hp.drewN) | (with_reducible apply Hp.bytesW) | (with_reducible exact Upd.here) | (with_reducible exact Upd.hereR) | (with_reducible apply Upd.there) | (with_reducible apply Sz.alloc) | (with_reducible apply Sz.set) | (with_reducible apply Sz.drew) | (with_reducible apply Sz.drewN) | (with_reducible apply Sz.bytesW) | (with_reducible assumption) | (with_reducible exact Sz.base _))))) rfl hb20 (fun u hu => (hd u hu).step (Hp.b (by repeat (first | (with_reducible exact H) | (with_reducible apply Hp.alloc) | (with_reducible apply Hp.set) | (with_reducible apply Hp.drew) | (with_reducible apply Hp.drewN) | (with_reducible apply Hp.bytesW) | (with_reducible exact Upd.here) | (with_reducible exact Upd.hereR) | (with_reducible apply Upd.there) | (with_reducible apply Sz.alloc) | (with_reducible apply Sz.set) | (with_reducible apply Sz.drew) | (with_reducible apply Sz.drewN) | (with_reducible apply Sz.bytesW) | (with_reducible assumption) | (with_reducible exact Sz.base _))))) hvl hdl).mono ?_; rintro e w3 ⟨A3, c3, vs3, rfl, hp3, hl3, q3⟩; replace H := Hp.call (by repeat (first | (with_reducible exact H) | (with_reducible apply Hp.alloc) | (with_reducible apply Hp.set) | (with_reducible apply Hp.drew) | (with_reducible apply Hp.drewN) | (with_reducible apply Hp.bytesW) | (with_reducible exact Upd.here) | (with_reducible exact Upd.hereR) | (with_reducible apply Upd.there) | (with_reducible apply Sz.alloc) | (with_reducible apply Sz.set) | (with_reducible apply Sz.drew) | (with_reducible apply Sz.drewN) | (with_reducible apply Sz.bytesW) | (with_reducible assumption) | (with_reducible exact Sz.base _))) q3; (try simp only [List.set_cons_zero, List.set_cons_succ, List.cons_append, List.nil_append] at H); clear q3; (try clear F); have F := H.facts; simp only [Facts, NeF, box, row, reg, cellsF, rByte, ne_eq, true_and, and_true, Nat.reduceAdd, Nat.zero_add] at F; have HP3 := Lib.hid hp3; have HL3 := Lib.hid hl3; clear hp3 hl3))
    obtain ⟨rfl, h9⟩ := Prod.mk.inj HR.out
    obtain ⟨rfl, rfl⟩ := Prod.mk.inj h9
    refine bodyPost_ret (v := .tuple #[.agg #[.slice A3 us.length c3], .int .i64 1, .int .i64 0]) (by simp [results, Tryd.results9, go_sem, F] <;> omega) rfl ⟨A3, c3, vs3, rfl, HP3.out, HL3.out, Hp.toX (by refine Hp.sel (by repeat (first | (with_reducible exact H) | (with_reducible apply Hp.alloc) | (with_reducible apply Hp.set) | (with_reducible apply Hp.drew) | (with_reducible apply Hp.drewN) | (with_reducible apply Hp.bytesW) | (with_reducible exact Upd.here) | (with_reducible exact Upd.hereR) | (with_reducible apply Upd.there) | (with_reducible apply Sz.alloc) | (with_reducible apply Sz.set) | (with_reducible apply Sz.drew) | (with_reducible apply Sz.drewN) | (with_reducible apply Sz.bytesW) | (with_reducible assumption) | (with_reducible exact Sz.base _))) ?_; (try simp only [List.set_cons_zero, List.set_cons_succ]); exact (by repeat (first | (with_reducible exact Sel.nil) | (with_reducible apply Sel.cons) | (with_reducible exact Del.here) | (with_reducible apply Del.there))))⟩

  | true =>
    go_enter Tryd.func9, Tryd.ntmps9
    go_wp2_with (first | (go_at_call 40; refine (isStore_any A n c us _ (hr.grow (Hp.b (by repeat (first | (with_reducible exact H) | (with_reducible apply Hp.alloc) | (with_reducible apply Hp.set) | (with_reducible apply Hp.drew) | (with_reducible apply Hp.drewN) | (with_reducible apply Hp.bytesW) | (with_reducible exact Upd.here) | (with_reducible exact Upd.hereR) | (with_reducible apply Upd.there) | (with_reducible apply Sz.alloc) | (with_reducible apply Sz.set) | (with_reducible apply Sz.drew) | (with_reducible apply Sz.drewN) | (with_reducible apply Sz.bytesW) | (with_reducible assumption) | (with_reducible exact Sz.base _))))) hn hsz (fun u hu => (hd u hu).step (Hp.b (by repeat (first | (with_reducible exact H) | (with_reducible apply Hp.alloc) | (with_reducible apply Hp.set) | (with_reducible apply Hp.drew) | (with_reducible apply Hp.drewN) | (with_reducible apply Hp.bytesW) | (with_reducible exact Upd.here) | (with_reducible exact Upd.hereR) | (with_reducible apply Upd.there) | (with_reducible apply Sz.alloc) | (with_reducible apply Sz.set) | (with_reducible apply Sz.drew) | (with_reducible apply Sz.drewN) | (with_reducible apply Sz.bytesW) | (with_reducible assumption) | (with_reducible exact Sz.base _))))) (hml.on (Hp.b (by repeat (first | (with_reducible exact H) | (with_reducible apply Hp.alloc) | (with_reducible apply Hp.set) | (with_reducible apply Hp.drew) | (with_reducible apply Hp.drewN) | (with_reducible apply Hp.bytesW) | (with_reducible exact Upd.here) | (with_reducible exact Upd.hereR) | (with_reducible apply Upd.there) | (with_reducible apply Sz.alloc) | (with_reducible apply Sz.set) | (with_reducible apply Sz.drew) | (with_reducible apply Sz.drewN) | (with_reducible apply Sz.bytesW) | (with_reducible assumption) | (with_reducible exact Sz.base _)))))).mono ?_; rintro e w4 ⟨rfl, q4⟩; rw [h1]; replace H := Hp.step (by repeat (first | (with_reducible exact H) | (with_reducible apply Hp.alloc) | (with_reducible apply Hp.set) | (with_reducible apply Hp.drew) | (with_reducible apply Hp.drewN) | (with_reducible apply Hp.bytesW) | (with_reducible exact Upd.here) | (with_reducible exact Upd.hereR) | (with_reducible apply Upd.there) | (with_reducible apply Sz.alloc) | (with_reducible apply Sz.set) | (with_reducible apply Sz.drew) | (with_reducible apply Sz.drewN) | (with_reducible apply Sz.bytesW) | (with_reducible assumption) | (with_reducible exact Sz.base _))) q4; (try simp only [List.set_cons_zero, List.set_cons_succ, List.cons_append, List.nil_append] at H); clear q4; (try clear F); have F := H.facts; simp only [Facts, NeF, box, row, reg, cellsF, rByte, ne_eq, true_and, and_true, Nat.reduceAdd, Nat.zero_add] at F))
    refine (putKv_hp A n c us s LA ln lc ls cas now rs rc rm _ hdr (hr.grow (Hp.b (by repeat (first | (with_reducible exact H) | (with_reducible apply Hp.alloc) | (with_reducible apply Hp.set) | (with_reducible apply Hp.drew) | (with_reducible apply Hp.drewN) | (with_reducible apply Hp.bytesW) | (with_reducible exact Upd.here) | (with_reducible exact Upd.hereR) | (with_reducible apply Upd.there) | (with_reducible apply Sz.alloc) | (with_reducible apply Sz.set) | (with_reducible apply Sz.drew) | (with_reducible apply Sz.drewN) | (with_reducible apply Sz.bytesW) | (with_reducible assumption) | (with_reducible exact Sz.base _))))) hn hb20 hsz (fun u hu => (hd u hu).step (Hp.b (by repeat (first | (with_reducible exact H) | (with_reducible apply Hp.alloc) | (with_reducible apply Hp.set) | (with_reducible apply Hp.drew) | (with_reducible apply Hp.drewN) | (with_reducible apply Hp.bytesW) | (with_reducible exact Upd.here) | (with_reducible exact Upd.hereR) | (with_reducible apply Upd.there) | (with_reducible apply Sz.alloc) | (with_reducible apply Sz.set) | (with_reducible apply Sz.drew) | (with_reducible apply Sz.drewN) | (with_reducible apply Sz.bytesW) | (with_reducible assumption) | (with_reducible exact Sz.base _))))) hvl hdl (hrl.grow (Hp.b (by repeat (first | (with_reducible exact H) | (with_reducible apply Hp.alloc) | (with_reducible apply Hp.set) | (with_reducible apply Hp.drew) | (with_reducible apply Hp.drewN) | (with_reducible apply Hp.bytesW) | (with_reducible exact Upd.here) | (with_reducible exact Upd.hereR) | (with_reducible apply Upd.there) | (with_reducible apply Sz.alloc) | (with_reducible apply Sz.set) | (with_reducible apply Sz.drew) | (with_reducible apply Sz.drewN) | (with_reducible apply Sz.bytesW) | (with_reducible assumption) | (with_reducible exact Sz.base _))))) hnl hlb hs (hml.on (Hp.b (by repeat (first | (with_reducible exact H) | (with_reducible apply Hp.alloc) | (with_reducible apply Hp.set) | (with_reducible apply Hp.drew) | (with_reducible apply Hp.drewN) | (with_reducible apply Hp.bytesW) | (with_reducible exact Upd.here) | (with_reducible exact Upd.hereR) | (with_reducible apply Upd.there) | (with_reducible apply Sz.alloc) | (with_reducible apply Sz.set) | (with_reducible apply Sz.drew) | (with_reducible apply Sz.drewN) | (with_reducible apply Sz.bytesW) | (with_reducible assumption) | (with_reducible exact Sz.base _))))) h1).mono ?_
    rintro e w5 ⟨A5, c5, vs5, rfl, hp5, hl5, h5⟩
    have HP5 := Lib.hid hp5
    have HL5 := Lib.hid hl5
    replace H := Hp.call (by repeat (first | (with_reducible exact H) | (with_reducible apply Hp.alloc) | (with_reducible apply Hp.set) | (with_reducible apply Hp.drew) | (with_reducible apply Hp.drewN) | (with_reducible apply Hp.bytesW) | (with_reducible exact Upd.here) | (with_reducible exact Upd.hereR) | (with_reducible apply Upd.there) | (with_reducible apply Sz.alloc) | (with_reducible apply Sz.set) | (with_reducible apply Sz.drew) | (with_reducible apply Sz.drewN) | (with_reducible apply Sz.bytesW) | (with_reducible assumption) | (with_reducible exact Sz.base _))) h5; (try simp only [List.set_cons_zero, List.set_cons_succ, List.cons_append, List.nil_append] at H); clear h5 F hdr h1 hp5 hl5; have F := H.facts; simp only [Facts, NeF, box, row, reg, cellsF, rByte, ne_eq, true_and, and_true, Nat.reduceAdd, Nat.zero_add] at F
    go_wp2_with fail
    refine bodyPost_ret (v := .tuple #[.agg #[.slice A5 rs.length c5], .int .i64 rc, .int .i64 rm]) (by simp [results, Tryd.results9, go_sem, F] <;> omega) rfl ⟨A5, c5, vs5, rfl, HP5.out, HL5.out, (by refine Hp.sel (by repeat (first | (with_reducible exact H) | (with_reducible apply Hp.alloc) | (with_reducible apply Hp.set) | (with_reducible apply Hp.drew) | (with_reducible apply Hp.drewN) | (with_reducible apply Hp.bytesW) | (with_reducible exact Upd.here) | (with_reducible exact Upd.hereR) | (with_reducible apply Upd.there) | (with_reducible apply Sz.alloc) | (with_reducible apply Sz.set) | (with_reducible apply Sz.drew) | (with_reducible apply Sz.drewN) | (with_reducible apply Sz.bytesW) | (with_reducible assumption) | (with_reducible exact Sz.base _))) ?_; (try simp only [List.set_cons_zero, List.set_cons_succ]); exact (by repeat (first | (with_reducible exact Sel.nil) | (with_reducible apply Sel.cons) | (with_reducible exact Del.here) | (with_reducible apply Del.there))))⟩
/-! ### up to where the memory lies -/
theorem plE_push (v : Ver) (hv : plV v = v) (e : Entry) : plE (pushE v e) = pushE v (plE e) := by
  unfold pushE plE
  simp only [List.length_map]
  split
  · simp [hv]
  · simp [hv, List.map_drop]
theorem bsE_map (s : ByteArray) (us : List Entry) : bsAt (cfE s) (us.map plE) = bsAt (cfE s) us := by
  unfold bsAt
  rw [List.countP_map]
  rfl
theorem insK_map (us : List Entry) (s : ByteArray) (e : Entry) (he : plE e = e) : insK (us.map plE) s e = (insK us s e).map plE := by
  unfold insK
  rw [bsE_map, List.map_append, List.map_cons, List.map_take, List.map_drop, he]
theorem curK_map (us : List Entry) (s : ByteArray) : curK (us.map plE) s = curK us s := by
  unfold curK
  rw [ixP_plE, List.getElem?_map]
  cases us[(ixP (hasP s) us 0).toNat]? with
  | none => rfl
  | some e =>
    have h : lastE (plE e) = lastE e := by simp [lastE, plE]
    simp [h]
theorem putK_map (us : List Entry) (s : ByteArray) (data : List UInt8) (cas now : Int) : (putK (us.map plE) s data cas now).1 = (putK us s data cas now).1.map plE ∧ (putK (us.map plE) s data cas now).2 = (putK us s data cas now).2 := by
  have h1 : storeOk (us.map plE) = storeOk us := storeOk_pl (mapE_idem us)
  have h2 : (us.map plE).modify (ixP (hasP s) us 0).toNat (pushE (newV data now)) = (us.modify (ixP (hasP s) us 0).toNat (pushE (newV data now))).map plE :=
    (modify_map plE (pushE (newV data now)) (pushE (newV data now)) (plE_push _ rfl) us _).symm
  have h3 : insK (us.map plE) s ⟨s, 1, [newV data now], none, 0⟩ = (insK us s ⟨s, 1, [newV data now], none, 0⟩).map plE := insK_map us s _ rfl
  unfold putK
  rw [h1, curK_map, ixP_plE, h2, h3, storeOk_pl (mapE_idem _), storeOk_pl (mapE_idem _)]
  split
  · split
    · exact ⟨rfl, rfl⟩
    · split
      · split
        · exact ⟨rfl, rfl⟩
        · exact ⟨rfl, rfl⟩
      · split
        · exact ⟨rfl, rfl⟩
        · exact ⟨rfl, rfl⟩
  · exact ⟨rfl, rfl⟩
theorem putK_pl {us vs : List Entry} (s : ByteArray) (data : List UInt8) (cas now : Int) (h : vs.map plE = us.map plE) : (putK vs s data cas now).1.map plE = (putK us s data cas now).1.map plE ∧ (putK vs s data cas now).2 = (putK us s data cas now).2 := by
  have h1 := putK_map us s data cas now
  have h2 := putK_map vs s data cas now
  rw [h] at h2
  exact ⟨h2.1.symm.trans h1.1, h2.2.symm.trans h1.2⟩
theorem cntV_app (a b : List Ver) : cntV (a ++ b) = cntV a + cntV b := by
  induction a with
  | nil => simp [cntV]
  | cons x a ih => rw [List.cons_append, cntV, cntV, ih]; omega
theorem cntV_drop (a : List Ver) : cntV (a.drop 1) ≤ cntV a := by
  cases a with
  | nil => exact Nat.le_refl _
  | cons x a => show cntV a ≤ _; rw [cntV]; omega
theorem cntE_app (a b : List Entry) : cntE (a ++ b) = cntE a + cntE b := by
  induction a with
  | nil => simp [cntE]
  | cons x a ih => rw [List.cons_append, cntE, cntE, ih]; omega
theorem cntE_push (v : Ver) : ∀ (us : List Entry) (i : Nat), cntE (us.modify i (pushE v)) ≤ cntE us + v.data.length + 5
  | [], i => by simp [cntE]
  | u :: us, 0 => by
    rw [List.modify_zero_cons, cntE, cntE]
    have h : cntV (pushE v u).vs ≤ cntV u.vs + v.data.length + 3 := by
      unfold pushE
      split
      · show cntV (u.vs ++ [v]) ≤ _
        rw [cntV_app, cntV, cntV]; omega
      · show cntV (u.vs.drop 1 ++ [v]) ≤ _
        have := cntV_drop u.vs
        rw [cntV_app, cntV, cntV]; omega
    omega
  | u :: us, i + 1 => by
    rw [List.modify_succ_cons, cntE, cntE]
    have := cntE_push v us i
    omega
theorem putK_all (us : List Entry) (s : ByteArray) (data : List UInt8) (cas now : Int) : ∃ rs rc rm, (∀ vs : List Entry, vs.map plE = us.map plE → (putK vs s data cas now).1.map plE = rs.map plE ∧ (putK vs s data cas now).2 = (rc, rm)) ∧ cntE rs ≤ cntE us + data.length + 5 := by
  refine ⟨(putK us s data cas now).1, (putK us s data cas now).2.1, (putK us s data cas now).2.2, fun vs h => putK_pl s data cas now h, ?_⟩
  unfold putK
  split
  · split
    · show cntE us ≤ _; omega
    · split
      · split
        · exact cntE_push (newV data now) us _
        · show cntE us ≤ _; omega
      · split
        · show cntE (insK us s _) ≤ _
          unfold insK
          have h2 := cntE_app (us.take (bsAt (cfE s) us)) (us.drop (bsAt (cfE s) us))
          rw [List.take_append_drop] at h2
          rw [cntE_app, cntE, h2]
          show _ + (2 + cntV [newV data now] + _) ≤ _
          rw [cntV, cntV]
          show _ + (2 + (data.length + 3 + 0) + _) ≤ _
          omega
        · show cntE us ≤ _; omega
  · show cntE us ≤ _; omega
theorem specPutKv_pl (A : Option Addr) (n c : Nat) (us : List Entry) (s : ByteArray) (LA : Option Addr) (ln lc : Nat) (ls : List UInt8) (cas now : Int) (rs : List Entry) (rc rm : Int) (w : World) (hdr : (putK us s ls cas now).1.map plE = rs.map plE ∧ (putK us s ls cas now).2 = (rc, rm)) (hr : Rd w w.heap.size 3 A n c (us.flatMap encEntry)) (hn : us.length = n) (hb20 : n ≤ 1048576) (hsz : ∀ u ∈ us, u.path.size ≤ maxLen) (hd : ∀ u ∈ us, DE 0 w u) (hvl : ∀ u ∈ us, u.vs.length ≤ 1048576) (hdl : ∀ u ∈ us, ∀ v ∈ u.vs, v.data.length ≤ 1048576) (hrl : Rd w w.heap.size 1 LA ln lc (ls.flatMap encByte)) (hnl : ls.length = ln) (hlb : ln ≤ 1048576) (hs : s.size ≤ maxLen) :
    Calls Tryd.prog 8 #[.agg #[.slice A n c], .string s, .slice LA ln lc, .int .i64 cas, .int .i64 now] w fun e w' => ∃ A' c', ∃ vs : List Entry, e = .returned (.tuple #[.agg #[.slice A' rs.length c'], .int .i64 rc, .int .i64 rm]) ∧ vs.map plE = rs.map plE ∧ vs.length = rs.length ∧ Hp w w' [stoX A' c' rs.length vs] := by
  have hl : (putK us s ls cas now).1.length = rs.length := by have := congrArg List.length hdr.1; simpa using this
  have hc := hdr.2
  refine (specPutKv_hp A n c us s LA ln lc ls cas now (putK us s ls cas now).1 (putK us s ls cas now).2.1 (putK us s ls cas now).2.2 w rfl hr hn hb20 hsz hd hvl hdl hrl hnl hlb hs).mono ?_
  rintro e w' ⟨A', c', vs, rfl, h1, h2, h3⟩
  rw [hl] at h2 h3
  exact ⟨A', c', vs, by rw [hl, hc], h1.trans hdr.1, h2, h3⟩
theorem implPutKv_pl (A : Option Addr) (n c : Nat) (us : List Entry) (s : ByteArray) (LA : Option Addr) (ln lc : Nat) (ls : List UInt8) (cas now : Int) (rs : List Entry) (rc rm : Int) (w : World) (hdr : (putK us s ls cas now).1.map plE = rs.map plE ∧ (putK us s ls cas now).2 = (rc, rm)) (hr : Rd w w.heap.size 3 A n c (us.flatMap encEntry)) (hn : us.length = n) (hb20 : n ≤ 1048576) (hsz : ∀ u ∈ us, u.path.size ≤ maxLen) (hd : ∀ u ∈ us, DE 0 w u) (hvl : ∀ u ∈ us, u.vs.length ≤ 1048576) (hdl : ∀ u ∈ us, ∀ v ∈ u.vs, v.data.length ≤ 1048576) (hrl : Rd w w.heap.size 1 LA ln lc (ls.flatMap encByte)) (hnl : ls.length = ln) (hlb : ln ≤ 1048576) (hs : s.size ≤ maxLen) (hml : mlOk w) :
    Calls Tryd.prog 9 #[.agg #[.slice A n c], .string s, .slice LA ln lc, .int .i64 cas, .int .i64 now] w fun e w' => ∃ A' c', ∃ vs : List Entry, e = .returned (.tuple #[.agg #[.slice A' rs.length c'], .int .i64 rc, .int .i64 rm]) ∧ vs.map plE = rs.map plE ∧ vs.length = rs.length ∧ Hp w w' [stoX A' c' rs.length vs] := by
  have hl : (putK us s ls cas now).1.length = rs.length := by have := congrArg List.length hdr.1; simpa using this
  have hc := hdr.2
  refine (implPutKv_hp A n c us s LA ln lc ls cas now (putK us s ls cas now).1 (putK us s ls cas now).2.1 (putK us s ls cas now).2.2 w rfl hr hn hb20 hsz hd hvl hdl hrl hnl hlb hs hml).mono ?_
  rintro e w' ⟨A', c', vs, rfl, h1, h2, h3⟩
  rw [hl] at h2 h3
  exact ⟨A', c', vs, by rw [hl, hc], h1.trans hdr.1, h2, h3⟩
end Go.Proofs.YtklmcbabpncfmaaDoor

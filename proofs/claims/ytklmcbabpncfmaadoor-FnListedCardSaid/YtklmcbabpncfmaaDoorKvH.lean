/- A version of a store by its number: the reference's and the program's. No condition. -/
import Derived.Test.YtklmcbabpncfmaaDoorKvG
import Derived.Test.YtklmcbabpncfmaaDoorStoreC
import Derived.Test.YtklmcbabpncfmaaDoorByte
namespace Go.Proofs.YtklmcbabpncfmaaDoor
open Go.RowKit
set_option linter.unusedVariables false
set_option linter.unusedSimpArgs false
structure GetR where
  data : List UInt8
  code : Int
  num : Int
/-- What an entry answers to a number. -/
def getE (e : Entry) (ver : Int) : GetR :=
  if inR (if ver = 0 then e.first + (e.vs.length : Int) - 1 else ver) e.first (e.first + (e.vs.length : Int) - 1) = true then
    (match e.vs[((if ver = 0 then e.first + (e.vs.length : Int) - 1 else ver) - e.first).toNat]? with
    | some v => if v.dead = true then ⟨[], 4, 0⟩ else if v.gone = true then ⟨[], 3, 0⟩ else ⟨v.data, 0, if ver = 0 then e.first + (e.vs.length : Int) - 1 else ver⟩
    | none => ⟨[], 2, 0⟩)
  else ⟨[], 2, 0⟩
def getF (es : List Entry) (s : ByteArray) (ver : Int) : GetR :=
  if storeOk es = true then (if 0 ≤ ixP (hasP s) es 0 then getE ((es[(ixP (hasP s) es 0).toNat]?).getD ⟨ByteArray.empty, 0, [], none, 0⟩) ver else ⟨[], 2, 0⟩) else ⟨[], 1, 0⟩
theorem bytesClone_hp (A : Option Addr) (c : Nat) (bs : List UInt8) (w : World) (hr : Rd w w.heap.size 1 A bs.length c (bs.flatMap encByte)) (hb : bs.length ≤ 1048576) :
    Calls Tryd.prog 71 #[.slice A bs.length c] w fun e w' => ∃ A' c', e = .returned (.slice A' bs.length c') ∧ Hp w w' [rByte A' c' bs] := by
  cases A with
  | none =>
    have h0 : bs = [] := by have := hr.none_nil (us := bs) rfl; simpa using this
    subst h0
    refine (Tryd.bytes_Clone_nil 0 c w).mono ?_
    rintro e w' ⟨rfl, h9⟩
    subst h9
    exact ⟨none, 0, rfl, Hp.cons_nilRow (Hp.nil _) 5 1⟩
  | some ad =>
    have hcs := hr.cells_some (Below.refl _ w)
    have e1 : (bs.map fun b => (b.toNat : Int)).map (Value.int .u8) = bs.flatMap encByte := by
      clear hr hb hcs
      induction bs with
      | nil => rfl
      | cons a l ih => rw [List.map_cons, List.map_cons, ih, List.flatMap_cons]; rfl
    refine (Tryd.bytes_Clone_at ad bs.length c (bs.map fun b => (b.toNat : Int)) w (by simp) (by omega) (fun i hi => hcs i _ ?_)).mono ?_
    · rw [← e1, List.getElem?_map, List.getElem?_map, List.getElem?_eq_getElem hi]
      simp [List.getD, List.getElem?_eq_getElem hi]
    · rintro e w' ⟨v', rfl, hown, -, hb1⟩
      rw [e1] at hown
      obtain ⟨A', c', rfl, -, -⟩ := own_rd hown
      exact ⟨A', c', rfl, Hp.ofOwn hb1 (Own.of hown) (Nat.le_refl _)⟩
set_option maxHeartbeats 8000000 in
set_option maxRecDepth 10000 in
theorem getKv_hp (A : Option Addr) (n c : Nat) (es : List Entry) (s : ByteArray) (ver : Int) (r : GetR) (w : World) (hd : getF es s ver = r) (hr : Rd w w.heap.size 3 A n c (es.flatMap encEntry)) (hn : es.length = n) (hsz : ∀ u ∈ es, u.path.size ≤ maxLen) (hdd : ∀ u ∈ es, DE 0 w u) (h1 : storeOk es = true) :
    Calls Tryd.prog 43 #[.agg #[.slice A n c], .string s, .int .i64 ver] w fun e w' => ∃ A' c', e = .returned (.tuple #[.slice A' r.data.length c', .int .i64 r.code, .int .i64 r.num]) ∧ Hp w w' [rByte A' c' r.data] := by
  have hc := hr.2.1
  have hm := hr.2.2.1
  unfold maxLen at hm
  have H := Hp.nil w
  have HD := Lib.hid hd; clear hd
  obtain ⟨h60', hok⟩ := ok_entry h1
  have h60 : n ≤ 60 := by omega
  have HOK := Lib.hid hok; clear hok h60'
  have hri := store_rises h1
  have HD1 : Hid ((if 0 ≤ ixP (hasP s) es 0 then getE ((es[(ixP (hasP s) es 0).toNat]?).getD ⟨ByteArray.empty, 0, [], none, 0⟩) ver else ⟨[], 2, 0⟩) = r) := by show _ = _; rw [← HD.out, getF, if_pos h1]
  clear HD
  rcases ixP_spec (hasP s) es 0 with ⟨hx, hall⟩ | ⟨i, hi, hx, hhit⟩
  · have HE : Hid (r = ⟨[], 2, 0⟩) := by show _ = _; rw [← HD1.out, hx, if_neg (by omega)]
    have hh := bsE_miss hall
    clear hall hx HD1
    go_enter Tryd.func43, Tryd.ntmps43
    go_wp2_with (go_at_call 72; refine (entryIndex_any A n c es s _ (hr.grow (Hp.b (by repeat (first | (with_reducible exact H) | (with_reducible apply Hp.alloc) | (with_reducible apply Hp.set) | (with_reducible apply Hp.drew) | (with_reducible apply Hp.drewN) | (with_reducible apply Hp.bytesW) | (with_reducible exact Upd.here) | (with_reducible exact Upd.hereR) | (with_reducible apply Upd.there) | (with_reducible apply Sz.alloc) | (with_reducible apply Sz.set) | (with_reducible apply Sz.drew) | (with_reducible apply Sz.drewN) | (with_reducible apply Sz.bytesW) | (with_reducible assumption) | (with_reducible exact Sz.base _))))) hn (by omega) hri).mono ?_; rintro e w1 ⟨rfl, q1⟩; rw [hh]; replace H := Hp.step (by repeat (first | (with_reducible exact H) | (with_reducible apply Hp.alloc) | (with_reducible apply Hp.set) | (with_reducible apply Hp.drew) | (with_reducible apply Hp.drewN) | (with_reducible apply Hp.bytesW) | (with_reducible exact Upd.here) | (with_reducible exact Upd.hereR) | (with_reducible apply Upd.there) | (with_reducible apply Sz.alloc) | (with_reducible apply Sz.set) | (with_reducible apply Sz.drew) | (with_reducible apply Sz.drewN) | (with_reducible apply Sz.bytesW) | (with_reducible assumption) | (with_reducible exact Sz.base _))) q1; (try simp only [List.set_cons_zero, List.set_cons_succ, List.cons_append, List.nil_append] at H); clear q1; have F := H.facts; simp only [Facts, NeF, box, row, reg, cellsF, rByte, ne_eq, true_and, and_true, Nat.reduceAdd, Nat.zero_add] at F)
    obtain rfl := HE.out
    refine bodyPost_ret (v := .tuple #[.slice none 0 0, .int .i64 2, .int .i64 0]) (by simp [results, Tryd.results43, go_sem]) rfl ⟨none, 0, rfl, Hp.cons_nilRow (Hp.ofBelow (Hp.b (by repeat (first | (with_reducible exact H) | (with_reducible apply Hp.alloc) | (with_reducible apply Hp.set) | (with_reducible apply Hp.drew) | (with_reducible apply Hp.drewN) | (with_reducible apply Hp.bytesW) | (with_reducible exact Upd.here) | (with_reducible exact Upd.hereR) | (with_reducible apply Upd.there) | (with_reducible apply Sz.alloc) | (with_reducible apply Sz.set) | (with_reducible apply Sz.drew) | (with_reducible apply Sz.drewN) | (with_reducible apply Sz.bytesW) | (with_reducible assumption) | (with_reducible exact Sz.base _))))) 5 1⟩
  · rw [Nat.zero_add] at hx
    have HD : Hid (getE es[i] ver = r) := by show _ = _; rw [← HD1.out, hx, if_pos (by omega), Int.toNat_natCast, List.getElem?_eq_getElem hi]; rfl
    obtain ⟨hat, hh⟩ := bsE_at hri hi (eqB_iff.1 (show eqB es[i].path s = true from hhit.1))
    clear HD1 hhit hx
    go_enter Tryd.func43, Tryd.ntmps43
    go_wp2_with fail
    refine (entryIndex_any A n c es s _ (hr.grow (Hp.b (by repeat (first | (with_reducible exact H) | (with_reducible apply Hp.alloc) | (with_reducible apply Hp.set) | (with_reducible apply Hp.drew) | (with_reducible apply Hp.drewN) | (with_reducible apply Hp.bytesW) | (with_reducible exact Upd.here) | (with_reducible exact Upd.hereR) | (with_reducible apply Upd.there) | (with_reducible apply Sz.alloc) | (with_reducible apply Sz.set) | (with_reducible apply Sz.drew) | (with_reducible apply Sz.drewN) | (with_reducible apply Sz.bytesW) | (with_reducible assumption) | (with_reducible exact Sz.base _))))) hn (by omega) hri).mono ?_
    rintro e w1 ⟨rfl, q1⟩
    rw [hh, hat]
    replace H := Hp.step (by repeat (first | (with_reducible exact H) | (with_reducible apply Hp.alloc) | (with_reducible apply Hp.set) | (with_reducible apply Hp.drew) | (with_reducible apply Hp.drewN) | (with_reducible apply Hp.bytesW) | (with_reducible exact Upd.here) | (with_reducible exact Upd.hereR) | (with_reducible apply Upd.there) | (with_reducible apply Sz.alloc) | (with_reducible apply Sz.set) | (with_reducible apply Sz.drew) | (with_reducible apply Sz.drewN) | (with_reducible apply Sz.bytesW) | (with_reducible assumption) | (with_reducible exact Sz.base _))) q1; (try simp only [List.set_cons_zero, List.set_cons_succ, List.cons_append, List.nil_append] at H); clear q1 hh hat h1 hri; have F := H.facts; simp only [Facts, NeF, box, row, reg, cellsF, rByte, ne_eq, true_and, and_true, Nat.reduceAdd, Nat.zero_add] at F
    skip
    obtain ⟨b, off, rfl, hb⟩ := Rd.atV (enc := encEntry) hr hn encEntry_len (by omega)
    have hcs : ∀ (W : World) (L : List Ent), Hp w W L → _ := fun W L h => Rd.entAt hr hn (k := i) (by omega) rfl W h.b
    have HCS := Lib.hid hcs; clear hcs
    obtain ⟨c0, c1, c2⟩ := HCS.out _ _ H
    have hbw : b < w1.heap.size := Nat.lt_of_lt_of_le hb H.b.size
    have hbe : ¬ b = w1.heap.size ∧ ¬ w1.heap.size = b := by omega
    have hok := HOK.out _ (List.getElem_mem hi)
    have hdr := hdd _ (List.getElem_mem hi)
    have hi0 : (0 : Int) ≤ (i : Int) := by omega
    have hi9 : (i : Int) < (n : Int) := by omega
    have HDL0 : Hid (∀ v ∈ es[i].vs, v.data.length ≤ 300) := by
      intro v hv
      have h9 := List.all_eq_true.1 hok.2.2.2.2 v hv
      simp only [verOk, Bool.and_eq_true, decide_eq_true_eq] at h9
      exact h9.1
    generalize es[i] = l at *
    clear hi
    obtain ⟨path, first, vs, va, vc⟩ := l
    dsimp only at c0 c1 c2 hok hdr HD HDL0
    obtain ⟨hp1, hf1, hv1, hv2, -⟩ := hok
    have hvr := hdr.1.1
    have hvd := hdr.2
    dsimp only at hvr hvd
    clear hdr
    have HDL1 := HDL0
    obtain ⟨last, hla⟩ : ∃ last : Int, last = first + (vs.length : Int) - 1 := ⟨_, rfl⟩
    have HLA : Hid (first + (vs.length : Int) - 1 = last) := hla.symm
    have HLB : Hid (last = first + (vs.length : Int) - 1) := hla
    have hw1 : IntKind.i64.wrap (first + (vs.length : Int)) = first + (vs.length : Int) := by rw [IntKind.wrap_i64]; omega
    have hw2 : IntKind.i64.wrap (first + (vs.length : Int) - 1) = last := by rw [IntKind.wrap_i64]; omega
    have hlr : 0 ≤ last ∧ last ≤ 1000010 := by omega
    clear hla
    by_cases hz : ver = 0
    · have HNN2 : Hid ((if ver = 0 then first + (vs.length : Int) - 1 else ver) = last) := by show _ = _; rw [HLA.out, if_pos hz]
      subst hz
      cases hin : inR last first last with
      | false =>
        have HE : Hid (r = ⟨[], 2, 0⟩) := by show _ = _; rw [← HD.out, getE]; (try dsimp only); rw [HNN2.out, HLA.out, hin]; rfl
        go_wp2_with (first | (go_at_call 67; refine (within_any _ _ _ _).mono ?_; rintro e w' ⟨rfl, rfl⟩; rw [hin]) | (go_at_call 71; refine (bytesClone_hp da dc data _ (hdv.1.grow (Hp.b (by repeat (first | (with_reducible exact H) | (with_reducible apply Hp.alloc) | (with_reducible apply Hp.set) | (with_reducible apply Hp.drew) | (with_reducible apply Hp.drewN) | (with_reducible apply Hp.bytesW) | (with_reducible exact Upd.here) | (with_reducible exact Upd.hereR) | (with_reducible apply Upd.there) | (with_reducible apply Sz.alloc) | (with_reducible apply Sz.set) | (with_reducible apply Sz.drew) | (with_reducible apply Sz.drewN) | (with_reducible apply Sz.bytesW) | (with_reducible assumption) | (with_reducible exact Sz.base _))))) (by omega)).mono ?_; rintro e w5 ⟨A', c', rfl, h5⟩; replace H := Hp.call (by repeat (first | (with_reducible exact H) | (with_reducible apply Hp.alloc) | (with_reducible apply Hp.set) | (with_reducible apply Hp.drew) | (with_reducible apply Hp.drewN) | (with_reducible apply Hp.bytesW) | (with_reducible exact Upd.here) | (with_reducible exact Upd.hereR) | (with_reducible apply Upd.there) | (with_reducible apply Sz.alloc) | (with_reducible apply Sz.set) | (with_reducible apply Sz.drew) | (with_reducible apply Sz.drewN) | (with_reducible apply Sz.bytesW) | (with_reducible assumption) | (with_reducible exact Sz.base _))) h5; (try simp only [List.set_cons_zero, List.set_cons_succ, List.cons_append, List.nil_append] at H); clear h5))
        obtain rfl := HE.out
        refine bodyPost_ret (v := .tuple #[.slice none 0 0, .int .i64 2, .int .i64 0]) (by simp [results, Tryd.results43, go_sem]) rfl ⟨none, 0, rfl, Hp.cons_nilRow (Hp.ofBelow (Hp.b (by repeat (first | (with_reducible exact H) | (with_reducible apply Hp.alloc) | (with_reducible apply Hp.set) | (with_reducible apply Hp.drew) | (with_reducible apply Hp.drewN) | (with_reducible apply Hp.bytesW) | (with_reducible exact Upd.here) | (with_reducible exact Upd.hereR) | (with_reducible apply Upd.there) | (with_reducible apply Sz.alloc) | (with_reducible apply Sz.set) | (with_reducible apply Sz.drew) | (with_reducible apply Sz.drewN) | (with_reducible apply Sz.bytesW) | (with_reducible assumption) | (with_reducible exact Sz.base _))))) 5 1⟩
      | true =>
        obtain ⟨hi1, hi2⟩ := inR_true.1 hin
        obtain ⟨m, hm9⟩ := Int.eq_ofNat_of_zero_le (show 0 ≤ last - first by omega)
        have hmv : m < vs.length := by have := HLB.out; omega
        have hwi : IntKind.i64.wrap (last - first) = (m : Int) := by rw [IntKind.wrap_i64]; omega
        have HVG : Hid (vs[((last - first).toNat)]? = some (vs[m]'hmv)) := by show _ = _; rw [hm9, Int.toNat_natCast, List.getElem?_eq_getElem hmv]
        have hm1 : (m : Int) < (vs.length : Int) := by omega
        have hm0 : (0 : Int) ≤ (m : Int) := by omega
        obtain ⟨b2, off2, rfl, hb2⟩ := Rd.atV (enc := encVer) hvr rfl encVer_len (by omega)
        have hvs : ∀ (W : World) (L : List Ent), Hp w W L → _ := fun W L h => Rd.verAt hvr rfl (k := m) hmv rfl W h.b
        have HVS := Lib.hid hvs; clear hvs
        obtain ⟨d0, d1, d2, d3⟩ := HVS.out _ _ H
        have hdv := hvd (vs[m]'hmv) (List.getElem_mem hmv)
        have hdl9 := HDL0.out (vs[m]'hmv) (List.getElem_mem hmv)
        have hbw2 : b2 < w1.heap.size := Nat.lt_of_lt_of_le hb2 H.b.size
        have hbe2 : ¬ b2 = w1.heap.size ∧ ¬ w1.heap.size = b2 := by omega
        clear hm9 hi1 hi2
        generalize (vs[m]'hmv) = v at *
        obtain ⟨data, da, dc, made, gone, dead⟩ := v
        dsimp only at d0 d1 d2 d3 hdv hdl9
        cases dead with
        | true =>
          have HE : Hid (r = ⟨[], 4, 0⟩) := by show _ = _; rw [← HD.out, getE]; (try dsimp only); rw [HNN2.out, HLA.out, hin]; simp only [if_true]; rw [HVG.out]; rfl
          go_wp2_with (first | (go_at_call 67; refine (within_any _ _ _ _).mono ?_; rintro e w' ⟨rfl, rfl⟩; rw [hin]) | (go_at_call 71; refine (bytesClone_hp da dc data _ (hdv.1.grow (Hp.b (by repeat (first | (with_reducible exact H) | (with_reducible apply Hp.alloc) | (with_reducible apply Hp.set) | (with_reducible apply Hp.drew) | (with_reducible apply Hp.drewN) | (with_reducible apply Hp.bytesW) | (with_reducible exact Upd.here) | (with_reducible exact Upd.hereR) | (with_reducible apply Upd.there) | (with_reducible apply Sz.alloc) | (with_reducible apply Sz.set) | (with_reducible apply Sz.drew) | (with_reducible apply Sz.drewN) | (with_reducible apply Sz.bytesW) | (with_reducible assumption) | (with_reducible exact Sz.base _))))) (by omega)).mono ?_; rintro e w5 ⟨A', c', rfl, h5⟩; replace H := Hp.call (by repeat (first | (with_reducible exact H) | (with_reducible apply Hp.alloc) | (with_reducible apply Hp.set) | (with_reducible apply Hp.drew) | (with_reducible apply Hp.drewN) | (with_reducible apply Hp.bytesW) | (with_reducible exact Upd.here) | (with_reducible exact Upd.hereR) | (with_reducible apply Upd.there) | (with_reducible apply Sz.alloc) | (with_reducible apply Sz.set) | (with_reducible apply Sz.drew) | (with_reducible apply Sz.drewN) | (with_reducible apply Sz.bytesW) | (with_reducible assumption) | (with_reducible exact Sz.base _))) h5; (try simp only [List.set_cons_zero, List.set_cons_succ, List.cons_append, List.nil_append] at H); clear h5))
          obtain rfl := HE.out
          refine bodyPost_ret (v := .tuple #[.slice none 0 0, .int .i64 4, .int .i64 0]) (by simp [results, Tryd.results43, go_sem]) rfl ⟨none, 0, rfl, Hp.cons_nilRow (Hp.ofBelow (Hp.b (by repeat (first | (with_reducible exact H) | (with_reducible apply Hp.alloc) | (with_reducible apply Hp.set) | (with_reducible apply Hp.drew) | (with_reducible apply Hp.drewN) | (with_reducible apply Hp.bytesW) | (with_reducible exact Upd.here) | (with_reducible exact Upd.hereR) | (with_reducible apply Upd.there) | (with_reducible apply Sz.alloc) | (with_reducible apply Sz.set) | (with_reducible apply Sz.drew) | (with_reducible apply Sz.drewN) | (with_reducible apply Sz.bytesW) | (with_reducible assumption) | (with_reducible exact Sz.base _))))) 5 1⟩
        | false =>
        cases gone with
        | true =>
          have HE : Hid (r = ⟨[], 3, 0⟩) := by show _ = _; rw [← HD.out, getE]; (try dsimp only); rw [HNN2.out, HLA.out, hin]; simp only [if_true]; rw [HVG.out]; rfl
          go_wp2_with (first | (go_at_call 67; refine (within_any _ _ _ _).mono ?_; rintro e w' ⟨rfl, rfl⟩; rw [hin]) | (go_at_call 71; refine (bytesClone_hp da dc data _ (hdv.1.grow (Hp.b (by repeat (first | (with_reducible exact H) | (with_reducible apply Hp.alloc) | (with_reducible apply Hp.set) | (with_reducible apply Hp.drew) | (with_reducible apply Hp.drewN) | (with_reducible apply Hp.bytesW) | (with_reducible exact Upd.here) | (with_reducible exact Upd.hereR) | (with_reducible apply Upd.there) | (with_reducible apply Sz.alloc) | (with_reducible apply Sz.set) | (with_reducible apply Sz.drew) | (with_reducible apply Sz.drewN) | (with_reducible apply Sz.bytesW) | (with_reducible assumption) | (with_reducible exact Sz.base _))))) (by omega)).mono ?_; rintro e w5 ⟨A', c', rfl, h5⟩; replace H := Hp.call (by repeat (first | (with_reducible exact H) | (with_reducible apply Hp.alloc) | (with_reducible apply Hp.set) | (with_reducible apply Hp.drew) | (with_reducible apply Hp.drewN) | (with_reducible apply Hp.bytesW) | (with_reducible exact Upd.here) | (with_reducible exact Upd.hereR) | (with_reducible apply Upd.there) | (with_reducible apply Sz.alloc) | (with_reducible apply Sz.set) | (with_reducible apply Sz.drew) | (with_reducible apply Sz.drewN) | (with_reducible apply Sz.bytesW) | (with_reducible assumption) | (with_reducible exact Sz.base _))) h5; (try simp only [List.set_cons_zero, List.set_cons_succ, List.cons_append, List.nil_append] at H); clear h5))
          obtain rfl := HE.out
          refine bodyPost_ret (v := .tuple #[.slice none 0 0, .int .i64 3, .int .i64 0]) (by simp [results, Tryd.results43, go_sem]) rfl ⟨none, 0, rfl, Hp.cons_nilRow (Hp.ofBelow (Hp.b (by repeat (first | (with_reducible exact H) | (with_reducible apply Hp.alloc) | (with_reducible apply Hp.set) | (with_reducible apply Hp.drew) | (with_reducible apply Hp.drewN) | (with_reducible apply Hp.bytesW) | (with_reducible exact Upd.here) | (with_reducible exact Upd.hereR) | (with_reducible apply Upd.there) | (with_reducible apply Sz.alloc) | (with_reducible apply Sz.set) | (with_reducible apply Sz.drew) | (with_reducible apply Sz.drewN) | (with_reducible apply Sz.bytesW) | (with_reducible assumption) | (with_reducible exact Sz.base _))))) 5 1⟩
        | false =>
          have HE : Hid (r = ⟨data, 0, last⟩) := by show _ = _; rw [← HD.out, getE]; (try dsimp only); rw [HNN2.out, HLA.out, hin]; simp only [if_true]; rw [HVG.out]; rfl
          have hdl : data.length ≤ 1048576 := by omega
          go_wp2_with (first | (go_at_call 67; refine (within_any _ _ _ _).mono ?_; rintro e w' ⟨rfl, rfl⟩; rw [hin]) | (go_at_call 71; refine (bytesClone_hp da dc data _ (hdv.1.grow (Hp.b (by repeat (first | (with_reducible exact H) | (with_reducible apply Hp.alloc) | (with_reducible apply Hp.set) | (with_reducible apply Hp.drew) | (with_reducible apply Hp.drewN) | (with_reducible apply Hp.bytesW) | (with_reducible exact Upd.here) | (with_reducible exact Upd.hereR) | (with_reducible apply Upd.there) | (with_reducible apply Sz.alloc) | (with_reducible apply Sz.set) | (with_reducible apply Sz.drew) | (with_reducible apply Sz.drewN) | (with_reducible apply Sz.bytesW) | (with_reducible assumption) | (with_reducible exact Sz.base _))))) (by omega)).mono ?_; rintro e w5 ⟨A', c', rfl, h5⟩; replace H := Hp.call (by repeat (first | (with_reducible exact H) | (with_reducible apply Hp.alloc) | (with_reducible apply Hp.set) | (with_reducible apply Hp.drew) | (with_reducible apply Hp.drewN) | (with_reducible apply Hp.bytesW) | (with_reducible exact Upd.here) | (with_reducible exact Upd.hereR) | (with_reducible apply Upd.there) | (with_reducible apply Sz.alloc) | (with_reducible apply Sz.set) | (with_reducible apply Sz.drew) | (with_reducible apply Sz.drewN) | (with_reducible apply Sz.bytesW) | (with_reducible assumption) | (with_reducible exact Sz.base _))) h5; (try simp only [List.set_cons_zero, List.set_cons_succ, List.cons_append, List.nil_append] at H); clear h5))
          obtain rfl := HE.out
          refine bodyPost_ret (v := .tuple #[.slice A' data.length c', .int .i64 0, .int .i64 last]) (by simp [results, Tryd.results43, go_sem]) rfl ⟨A', c', rfl, (by refine Hp.sel (by repeat (first | (with_reducible exact H) | (with_reducible apply Hp.alloc) | (with_reducible apply Hp.set) | (with_reducible apply Hp.drew) | (with_reducible apply Hp.drewN) | (with_reducible apply Hp.bytesW) | (with_reducible exact Upd.here) | (with_reducible exact Upd.hereR) | (with_reducible apply Upd.there) | (with_reducible apply Sz.alloc) | (with_reducible apply Sz.set) | (with_reducible apply Sz.drew) | (with_reducible apply Sz.drewN) | (with_reducible apply Sz.bytesW) | (with_reducible assumption) | (with_reducible exact Sz.base _))) ?_; (try simp only [List.set_cons_zero, List.set_cons_succ]); exact (by repeat (first | (with_reducible exact Sel.nil) | (with_reducible apply Sel.cons) | (with_reducible exact Del.here) | (with_reducible apply Del.there))))⟩
    · have hzb : (ver == 0) = false := beq_eq_false_iff_ne.2 hz
      have hzd : decide (ver = 0) = false := decide_eq_false hz
      have HNN2 : Hid ((if ver = 0 then first + (vs.length : Int) - 1 else ver) = ver) := by show _ = _; rw [if_neg hz]
      clear hz
      cases hin : inR ver first last with
      | false =>
        have HE : Hid (r = ⟨[], 2, 0⟩) := by show _ = _; rw [← HD.out, getE]; (try dsimp only); rw [HNN2.out, HLA.out, hin]; rfl
        go_wp2_with (first | (go_at_call 67; refine (within_any _ _ _ _).mono ?_; rintro e w' ⟨rfl, rfl⟩; rw [hin]) | (go_at_call 71; refine (bytesClone_hp da dc data _ (hdv.1.grow (Hp.b (by repeat (first | (with_reducible exact H) | (with_reducible apply Hp.alloc) | (with_reducible apply Hp.set) | (with_reducible apply Hp.drew) | (with_reducible apply Hp.drewN) | (with_reducible apply Hp.bytesW) | (with_reducible exact Upd.here) | (with_reducible exact Upd.hereR) | (with_reducible apply Upd.there) | (with_reducible apply Sz.alloc) | (with_reducible apply Sz.set) | (with_reducible apply Sz.drew) | (with_reducible apply Sz.drewN) | (with_reducible apply Sz.bytesW) | (with_reducible assumption) | (with_reducible exact Sz.base _))))) (by omega)).mono ?_; rintro e w5 ⟨A', c', rfl, h5⟩; replace H := Hp.call (by repeat (first | (with_reducible exact H) | (with_reducible apply Hp.alloc) | (with_reducible apply Hp.set) | (with_reducible apply Hp.drew) | (with_reducible apply Hp.drewN) | (with_reducible apply Hp.bytesW) | (with_reducible exact Upd.here) | (with_reducible exact Upd.hereR) | (with_reducible apply Upd.there) | (with_reducible apply Sz.alloc) | (with_reducible apply Sz.set) | (with_reducible apply Sz.drew) | (with_reducible apply Sz.drewN) | (with_reducible apply Sz.bytesW) | (with_reducible assumption) | (with_reducible exact Sz.base _))) h5; (try simp only [List.set_cons_zero, List.set_cons_succ, List.cons_append, List.nil_append] at H); clear h5))
        obtain rfl := HE.out
        refine bodyPost_ret (v := .tuple #[.slice none 0 0, .int .i64 2, .int .i64 0]) (by simp [results, Tryd.results43, go_sem]) rfl ⟨none, 0, rfl, Hp.cons_nilRow (Hp.ofBelow (Hp.b (by repeat (first | (with_reducible exact H) | (with_reducible apply Hp.alloc) | (with_reducible apply Hp.set) | (with_reducible apply Hp.drew) | (with_reducible apply Hp.drewN) | (with_reducible apply Hp.bytesW) | (with_reducible exact Upd.here) | (with_reducible exact Upd.hereR) | (with_reducible apply Upd.there) | (with_reducible apply Sz.alloc) | (with_reducible apply Sz.set) | (with_reducible apply Sz.drew) | (with_reducible apply Sz.drewN) | (with_reducible apply Sz.bytesW) | (with_reducible assumption) | (with_reducible exact Sz.base _))))) 5 1⟩
      | true =>
        obtain ⟨hi1, hi2⟩ := inR_true.1 hin
        obtain ⟨m, hm9⟩ := Int.eq_ofNat_of_zero_le (show 0 ≤ ver - first by omega)
        have hmv : m < vs.length := by have := HLB.out; omega
        have hwi : IntKind.i64.wrap (ver - first) = (m : Int) := by rw [IntKind.wrap_i64]; omega
        have HVG : Hid (vs[((ver - first).toNat)]? = some (vs[m]'hmv)) := by show _ = _; rw [hm9, Int.toNat_natCast, List.getElem?_eq_getElem hmv]
        have hm1 : (m : Int) < (vs.length : Int) := by omega
        have hm0 : (0 : Int) ≤ (m : Int) := by omega
        obtain ⟨b2, off2, rfl, hb2⟩ := Rd.atV (enc := encVer) hvr rfl encVer_len (by omega)
        have hvs : ∀ (W : World) (L : List Ent), Hp w W L → _ := fun W L h => Rd.verAt hvr rfl (k := m) hmv rfl W h.b
        have HVS := Lib.hid hvs; clear hvs
        obtain ⟨d0, d1, d2, d3⟩ := HVS.out _ _ H
        have hdv := hvd (vs[m]'hmv) (List.getElem_mem hmv)
        have hdl9 := HDL0.out (vs[m]'hmv) (List.getElem_mem hmv)
        have hbw2 : b2 < w1.heap.size := Nat.lt_of_lt_of_le hb2 H.b.size
        have hbe2 : ¬ b2 = w1.heap.size ∧ ¬ w1.heap.size = b2 := by omega
        clear hm9 hi1 hi2
        generalize (vs[m]'hmv) = v at *
        obtain ⟨data, da, dc, made, gone, dead⟩ := v
        dsimp only at d0 d1 d2 d3 hdv hdl9
        cases dead with
        | true =>
          have HE : Hid (r = ⟨[], 4, 0⟩) := by show _ = _; rw [← HD.out, getE]; (try dsimp only); rw [HNN2.out, HLA.out, hin]; simp only [if_true]; rw [HVG.out]; rfl
          go_wp2_with (first | (go_at_call 67; refine (within_any _ _ _ _).mono ?_; rintro e w' ⟨rfl, rfl⟩; rw [hin]) | (go_at_call 71; refine (bytesClone_hp da dc data _ (hdv.1.grow (Hp.b (by repeat (first | (with_reducible exact H) | (with_reducible apply Hp.alloc) | (with_reducible apply Hp.set) | (with_reducible apply Hp.drew) | (with_reducible apply Hp.drewN) | (with_reducible apply Hp.bytesW) | (with_reducible exact Upd.here) | (with_reducible exact Upd.hereR) | (with_reducible apply Upd.there) | (with_reducible apply Sz.alloc) | (with_reducible apply Sz.set) | (with_reducible apply Sz.drew) | (with_reducible apply Sz.drewN) | (with_reducible apply Sz.bytesW) | (with_reducible assumption) | (with_reducible exact Sz.base _))))) (by omega)).mono ?_; rintro e w5 ⟨A', c', rfl, h5⟩; replace H := Hp.call (by repeat (first | (with_reducible exact H) | (with_reducible apply Hp.alloc) | (with_reducible apply Hp.set) | (with_reducible apply Hp.drew) | (with_reducible apply Hp.drewN) | (with_reducible apply Hp.bytesW) | (with_reducible exact Upd.here) | (with_reducible exact Upd.hereR) | (with_reducible apply Upd.there) | (with_reducible apply Sz.alloc) | (with_reducible apply Sz.set) | (with_reducible apply Sz.drew) | (with_reducible apply Sz.drewN) | (with_reducible apply Sz.bytesW) | (with_reducible assumption) | (with_reducible exact Sz.base _))) h5; (try simp only [List.set_cons_zero, List.set_cons_succ, List.cons_append, List.nil_append] at H); clear h5))
          obtain rfl := HE.out
          refine bodyPost_ret (v := .tuple #[.slice none 0 0, .int .i64 4, .int .i64 0]) (by simp [results, Tryd.results43, go_sem]) rfl ⟨none, 0, rfl, Hp.cons_nilRow (Hp.ofBelow (Hp.b (by repeat (first | (with_reducible exact H) | (with_reducible apply Hp.alloc) | (with_reducible apply Hp.set) | (with_reducible apply Hp.drew) | (with_reducible apply Hp.drewN) | (with_reducible apply Hp.bytesW) | (with_reducible exact Upd.here) | (with_reducible exact Upd.hereR) | (with_reducible apply Upd.there) | (with_reducible apply Sz.alloc) | (with_reducible apply Sz.set) | (with_reducible apply Sz.drew) | (with_reducible apply Sz.drewN) | (with_reducible apply Sz.bytesW) | (with_reducible assumption) | (with_reducible exact Sz.base _))))) 5 1⟩
        | false =>
        cases gone with
        | true =>
          have HE : Hid (r = ⟨[], 3, 0⟩) := by show _ = _; rw [← HD.out, getE]; (try dsimp only); rw [HNN2.out, HLA.out, hin]; simp only [if_true]; rw [HVG.out]; rfl
          go_wp2_with (first | (go_at_call 67; refine (within_any _ _ _ _).mono ?_; rintro e w' ⟨rfl, rfl⟩; rw [hin]) | (go_at_call 71; refine (bytesClone_hp da dc data _ (hdv.1.grow (Hp.b (by repeat (first | (with_reducible exact H) | (with_reducible apply Hp.alloc) | (with_reducible apply Hp.set) | (with_reducible apply Hp.drew) | (with_reducible apply Hp.drewN) | (with_reducible apply Hp.bytesW) | (with_reducible exact Upd.here) | (with_reducible exact Upd.hereR) | (with_reducible apply Upd.there) | (with_reducible apply Sz.alloc) | (with_reducible apply Sz.set) | (with_reducible apply Sz.drew) | (with_reducible apply Sz.drewN) | (with_reducible apply Sz.bytesW) | (with_reducible assumption) | (with_reducible exact Sz.base _))))) (by omega)).mono ?_; rintro e w5 ⟨A', c', rfl, h5⟩; replace H := Hp.call (by repeat (first | (with_reducible exact H) | (with_reducible apply Hp.alloc) | (with_reducible apply Hp.set) | (with_reducible apply Hp.drew) | (with_reducible apply Hp.drewN) | (with_reducible apply Hp.bytesW) | (with_reducible exact Upd.here) | (with_reducible exact Upd.hereR) | (with_reducible apply Upd.there) | (with_reducible apply Sz.alloc) | (with_reducible apply Sz.set) | (with_reducible apply Sz.drew) | (with_reducible apply Sz.drewN) | (with_reducible apply Sz.bytesW) | (with_reducible assumption) | (with_reducible exact Sz.base _))) h5; (try simp only [List.set_cons_zero, List.set_cons_succ, List.cons_append, List.nil_append] at H); clear h5))
          obtain rfl := HE.out
          refine bodyPost_ret (v := .tuple #[.slice none 0 0, .int .i64 3, .int .i64 0]) (by simp [results, Tryd.results43, go_sem]) rfl ⟨none, 0, rfl, Hp.cons_nilRow (Hp.ofBelow (Hp.b (by repeat (first | (with_reducible exact H) | (with_reducible apply Hp.alloc) | (with_reducible apply Hp.set) | (with_reducible apply Hp.drew) | (with_reducible apply Hp.drewN) | (with_reducible apply Hp.bytesW) | (with_reducible exact Upd.here) | (with_reducible exact Upd.hereR) | (with_reducible apply Upd.there) | (with_reducible apply Sz.alloc) | (with_reducible apply Sz.set) | (with_reducible apply Sz.drew) | (with_reducible apply Sz.drewN) | (with_reducible apply Sz.bytesW) | (with_reducible assumption) | (with_reducible exact Sz.base _))))) 5 1⟩
        | false =>
          have HE : Hid (r = ⟨data, 0, ver⟩) := by show _ = _; rw [← HD.out, getE]; (try dsimp only); rw [HNN2.out, HLA.out, hin]; simp only [if_true]; rw [HVG.out]; rfl
          have hdl : data.length ≤ 1048576 := by omega
          go_wp2_with (first | (go_at_call 67; refine (within_any _ _ _ _).mono ?_; rintro e w' ⟨rfl, rfl⟩; rw [hin]) | (go_at_call 71; refine (bytesClone_hp da dc data _ (hdv.1.grow (Hp.b (by repeat (first | (with_reducible exact H) | (with_reducible apply Hp.alloc) | (with_reducible apply Hp.set) | (with_reducible apply Hp.drew) | (with_reducible apply Hp.drewN) | (with_reducible apply Hp.bytesW) | (with_reducible exact Upd.here) | (with_reducible exact Upd.hereR) | (with_reducible apply Upd.there) | (with_reducible apply Sz.alloc) | (with_reducible apply Sz.set) | (with_reducible apply Sz.drew) | (with_reducible apply Sz.drewN) | (with_reducible apply Sz.bytesW) | (with_reducible assumption) | (with_reducible exact Sz.base _))))) (by omega)).mono ?_; rintro e w5 ⟨A', c', rfl, h5⟩; replace H := Hp.call (by repeat (first | (with_reducible exact H) | (with_reducible apply Hp.alloc) | (with_reducible apply Hp.set) | (with_reducible apply Hp.drew) | (with_reducible apply Hp.drewN) | (with_reducible apply Hp.bytesW) | (with_reducible exact Upd.here) | (with_reducible exact Upd.hereR) | (with_reducible apply Upd.there) | (with_reducible apply Sz.alloc) | (with_reducible apply Sz.set) | (with_reducible apply Sz.drew) | (with_reducible apply Sz.drewN) | (with_reducible apply Sz.bytesW) | (with_reducible assumption) | (with_reducible exact Sz.base _))) h5; (try simp only [List.set_cons_zero, List.set_cons_succ, List.cons_append, List.nil_append] at H); clear h5))
          obtain rfl := HE.out
          refine bodyPost_ret (v := .tuple #[.slice A' data.length c', .int .i64 0, .int .i64 ver]) (by simp [results, Tryd.results43, go_sem]) rfl ⟨A', c', rfl, (by refine Hp.sel (by repeat (first | (with_reducible exact H) | (with_reducible apply Hp.alloc) | (with_reducible apply Hp.set) | (with_reducible apply Hp.drew) | (with_reducible apply Hp.drewN) | (with_reducible apply Hp.bytesW) | (with_reducible exact Upd.here) | (with_reducible exact Upd.hereR) | (with_reducible apply Upd.there) | (with_reducible apply Sz.alloc) | (with_reducible apply Sz.set) | (with_reducible apply Sz.drew) | (with_reducible apply Sz.drewN) | (with_reducible apply Sz.bytesW) | (with_reducible assumption) | (with_reducible exact Sz.base _))) ?_; (try simp only [List.set_cons_zero, List.set_cons_succ]); exact (by repeat (first | (with_reducible exact Sel.nil) | (with_reducible apply Sel.cons) | (with_reducible exact Del.here) | (with_reducible apply Del.there))))⟩
set_option maxHeartbeats 8000000 in
set_option maxRecDepth 10000 in
theorem implGetKv_hp (A : Option Addr) (n c : Nat) (es : List Entry) (s : ByteArray) (ver : Int) (r : GetR) (w : World) (hd : getF es s ver = r) (hr : Rd w w.heap.size 3 A n c (es.flatMap encEntry)) (hn : es.length = n) (hsz : ∀ u ∈ es, u.path.size ≤ maxLen) (hdd : ∀ u ∈ es, DE 0 w u) (hml : mlOk w) :
    Calls Tryd.prog 11 #[.agg #[.slice A n c], .string s, .int .i64 ver] w fun e w' => ∃ A' c', e = .returned (.tuple #[.slice A' r.data.length c', .int .i64 r.code, .int .i64 r.num]) ∧ Hp w w' [rByte A' c' r.data] := by
  have hc := hr.2.1
  have hm := hr.2.2.1
  unfold maxLen at hm
  have H := Hp.nil w
  have HD := Lib.hid hd; clear hd
  cases h1 : storeOk es with
  | false =>
    have HE : Hid (r = ⟨[], 1, 0⟩) := by show _ = _; rw [← HD.out, getF, if_neg (by rw [h1]; decide)]
    go_enter Tryd.func11, Tryd.ntmps11
    go_wp2_with (go_at_call 40; refine (isStore_any A n c es _ (hr.grow (Hp.b (by repeat (first | (with_reducible exact H) | (with_reducible apply Hp.alloc) | (with_reducible apply Hp.set) | (with_reducible apply Hp.drew) | (with_reducible apply Hp.drewN) | (with_reducible apply Hp.bytesW) | (with_reducible exact Upd.here) | (with_reducible exact Upd.hereR) | (with_reducible apply Upd.there) | (with_reducible apply Sz.alloc) | (with_reducible apply Sz.set) | (with_reducible apply Sz.drew) | (with_reducible apply Sz.drewN) | (with_reducible apply Sz.bytesW) | (with_reducible assumption) | (with_reducible exact Sz.base _))))) hn hsz (fun u hu => (hdd u hu).step (Hp.b (by repeat (first | (with_reducible exact H) | (with_reducible apply Hp.alloc) | (with_reducible apply Hp.set) | (with_reducible apply Hp.drew) | (with_reducible apply Hp.drewN) | (with_reducible apply Hp.bytesW) | (with_reducible exact Upd.here) | (with_reducible exact Upd.hereR) | (with_reducible apply Upd.there) | (with_reducible apply Sz.alloc) | (with_reducible apply Sz.set) | (with_reducible apply Sz.drew) | (with_reducible apply Sz.drewN) | (with_reducible apply Sz.bytesW) | (with_reducible assumption) | (with_reducible exact Sz.base _))))) (hml.on (Hp.b (by repeat (first | (with_reducible exact H) | (with_reducible apply Hp.alloc) | (with_reducible apply Hp.set) | (with_reducible apply Hp.drew) | (with_reducible apply Hp.drewN) | (with_reducible apply Hp.bytesW) | (with_reducible exact Upd.here) | (with_reducible exact Upd.hereR) | (with_reducible apply Upd.there) | (with_reducible apply Sz.alloc) | (with_reducible apply Sz.set) | (with_reducible apply Sz.drew) | (with_reducible apply Sz.drewN) | (with_reducible apply Sz.bytesW) | (with_reducible assumption) | (with_reducible exact Sz.base _)))))).mono ?_; rintro e w0 ⟨rfl, q0⟩; rw [h1]; replace H := Hp.step (by repeat (first | (with_reducible exact H) | (with_reducible apply Hp.alloc) | (with_reducible apply Hp.set) | (with_reducible apply Hp.drew) | (with_reducible apply Hp.drewN) | (with_reducible apply Hp.bytesW) | (with_reducible exact Upd.here) | (with_reducible exact Upd.hereR) | (with_reducible apply Upd.there) | (with_reducible apply Sz.alloc) | (with_reducible apply Sz.set) | (with_reducible apply Sz.drew) | (with_reducible apply Sz.drewN) | (with_reducible apply Sz.bytesW) | (with_reducible assumption) | (with_reducible exact Sz.base _))) q0; (try simp only [List.set_cons_zero, List.set_cons_succ, List.cons_append, List.nil_append] at H); clear q0; have F := H.facts; simp only [Facts, NeF, box, row, reg, cellsF, rByte, ne_eq, true_and, and_true, Nat.reduceAdd, Nat.zero_add] at F)
    obtain rfl := HE.out
    refine bodyPost_ret (v := .tuple #[.slice none 0 0, .int .i64 1, .int .i64 0]) (by simp [results, Tryd.results11, go_sem]) rfl ⟨none, 0, rfl, Hp.cons_nilRow (Hp.ofBelow (Hp.b (by repeat (first | (with_reducible exact H) | (with_reducible apply Hp.alloc) | (with_reducible apply Hp.set) | (with_reducible apply Hp.drew) | (with_reducible apply Hp.drewN) | (with_reducible apply Hp.bytesW) | (with_reducible exact Upd.here) | (with_reducible exact Upd.hereR) | (with_reducible apply Upd.there) | (with_reducible apply Sz.alloc) | (with_reducible apply Sz.set) | (with_reducible apply Sz.drew) | (with_reducible apply Sz.drewN) | (with_reducible apply Sz.bytesW) | (with_reducible assumption) | (with_reducible exact Sz.base _))))) 5 1⟩
  | true =>
    go_enter Tryd.func11, Tryd.ntmps11
    go_wp2_with (first | (go_at_call 40; refine (isStore_any A n c es _ (hr.grow (Hp.b (by repeat (first | (with_reducible exact H) | (with_reducible apply Hp.alloc) | (with_reducible apply Hp.set) | (with_reducible apply Hp.drew) | (with_reducible apply Hp.drewN) | (with_reducible apply Hp.bytesW) | (with_reducible exact Upd.here) | (with_reducible exact Upd.hereR) | (with_reducible apply Upd.there) | (with_reducible apply Sz.alloc) | (with_reducible apply Sz.set) | (with_reducible apply Sz.drew) | (with_reducible apply Sz.drewN) | (with_reducible apply Sz.bytesW) | (with_reducible assumption) | (with_reducible exact Sz.base _))))) hn hsz (fun u hu => (hdd u hu).step (Hp.b (by repeat (first | (with_reducible exact H) | (with_reducible apply Hp.alloc) | (with_reducible apply Hp.set) | (with_reducible apply Hp.drew) | (with_reducible apply Hp.drewN) | (with_reducible apply Hp.bytesW) | (with_reducible exact Upd.here) | (with_reducible exact Upd.hereR) | (with_reducible apply Upd.there) | (with_reducible apply Sz.alloc) | (with_reducible apply Sz.set) | (with_reducible apply Sz.drew) | (with_reducible apply Sz.drewN) | (with_reducible apply Sz.bytesW) | (with_reducible assumption) | (with_reducible exact Sz.base _))))) (hml.on (Hp.b (by repeat (first | (with_reducible exact H) | (with_reducible apply Hp.alloc) | (with_reducible apply Hp.set) | (with_reducible apply Hp.drew) | (with_reducible apply Hp.drewN) | (with_reducible apply Hp.bytesW) | (with_reducible exact Upd.here) | (with_reducible exact Upd.hereR) | (with_reducible apply Upd.there) | (with_reducible apply Sz.alloc) | (with_reducible apply Sz.set) | (with_reducible apply Sz.drew) | (with_reducible apply Sz.drewN) | (with_reducible apply Sz.bytesW) | (with_reducible assumption) | (with_reducible exact Sz.base _)))))).mono ?_; rintro e w0 ⟨rfl, q0⟩; rw [h1]; replace H := Hp.step (by repeat (first | (with_reducible exact H) | (with_reducible apply Hp.alloc) | (with_reducible apply Hp.set) | (with_reducible apply Hp.drew) | (with_reducible apply Hp.drewN) | (with_reducible apply Hp.bytesW) | (with_reducible exact Upd.here) | (with_reducible exact Upd.hereR) | (with_reducible apply Upd.there) | (with_reducible apply Sz.alloc) | (with_reducible apply Sz.set) | (with_reducible apply Sz.drew) | (with_reducible apply Sz.drewN) | (with_reducible apply Sz.bytesW) | (with_reducible assumption) | (with_reducible exact Sz.base _))) q0; (try simp only [List.set_cons_zero, List.set_cons_succ, List.cons_append, List.nil_append] at H); clear q0; have F := H.facts; simp only [Facts, NeF, box, row, reg, cellsF, rByte, ne_eq, true_and, and_true, Nat.reduceAdd, Nat.zero_add] at F) | (go_at_call 43; refine (getKv_hp A n c es s ver r _ HD.out (hr.grow (Hp.b (by repeat (first | (with_reducible exact H) | (with_reducible apply Hp.alloc) | (with_reducible apply Hp.set) | (with_reducible apply Hp.drew) | (with_reducible apply Hp.drewN) | (with_reducible apply Hp.bytesW) | (with_reducible exact Upd.here) | (with_reducible exact Upd.hereR) | (with_reducible apply Upd.there) | (with_reducible apply Sz.alloc) | (with_reducible apply Sz.set) | (with_reducible apply Sz.drew) | (with_reducible apply Sz.drewN) | (with_reducible apply Sz.bytesW) | (with_reducible assumption) | (with_reducible exact Sz.base _))))) hn hsz (fun u hu => (hdd u hu).step (Hp.b (by repeat (first | (with_reducible exact H) | (with_reducible apply Hp.alloc) | (with_reducible apply Hp.set) | (with_reducible apply Hp.drew) | (with_reducible apply Hp.drewN) | (with_reducible apply Hp.bytesW) | (with_reducible exact Upd.here) | (with_reducible exact Upd.hereR) | (with_reducible apply Upd.there) | (with_reducible apply Sz.alloc) | (with_reducible apply Sz.set) | (with_reducible apply Sz.drew) | (with_reducible apply Sz.drewN) | (with_reducible apply Sz.bytesW) | (with_reducible assumption) | (with_reducible exact Sz.base _))))) h1).mono ?_; rintro e w1 ⟨A', c', rfl, h2⟩; replace H := Hp.call (by repeat (first | (with_reducible exact H) | (with_reducible apply Hp.alloc) | (with_reducible apply Hp.set) | (with_reducible apply Hp.drew) | (with_reducible apply Hp.drewN) | (with_reducible apply Hp.bytesW) | (with_reducible exact Upd.here) | (with_reducible exact Upd.hereR) | (with_reducible apply Upd.there) | (with_reducible apply Sz.alloc) | (with_reducible apply Sz.set) | (with_reducible apply Sz.drew) | (with_reducible apply Sz.drewN) | (with_reducible apply Sz.bytesW) | (with_reducible assumption) | (with_reducible exact Sz.base _))) h2; (try simp only [List.set_cons_zero, List.set_cons_succ, List.cons_append, List.nil_append] at H); clear h2))
    refine bodyPost_ret (v := .tuple #[.slice A' r.data.length c', .int .i64 r.code, .int .i64 r.num]) (by simp [results, Tryd.results11, go_sem]) rfl ⟨A', c', rfl, (by refine Hp.sel (by repeat (first | (with_reducible exact H) | (with_reducible apply Hp.alloc) | (with_reducible apply Hp.set) | (with_reducible apply Hp.drew) | (with_reducible apply Hp.drewN) | (with_reducible apply Hp.bytesW) | (with_reducible exact Upd.here) | (with_reducible exact Upd.hereR) | (with_reducible apply Upd.there) | (with_reducible apply Sz.alloc) | (with_reducible apply Sz.set) | (with_reducible apply Sz.drew) | (with_reducible apply Sz.drewN) | (with_reducible apply Sz.bytesW) | (with_reducible assumption) | (with_reducible exact Sz.base _))) ?_; (try simp only [List.set_cons_zero, List.set_cons_succ]); exact (by repeat (first | (with_reducible exact Sel.nil) | (with_reducible apply Sel.cons) | (with_reducible exact Del.here) | (with_reducible apply Del.there))))⟩
end Go.Proofs.YtklmcbabpncfmaaDoor

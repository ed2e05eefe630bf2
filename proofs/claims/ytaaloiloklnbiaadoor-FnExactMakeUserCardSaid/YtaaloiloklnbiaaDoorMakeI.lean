/- A new user: what MakeUser answers, and the program's makeUser. No condition. -/
import Derived.Test.YtaaloiloklnbiaaDoorMakeH
import Derived.Test.YtaaloiloklnbiaaDoorName
import Derived.Test.YtaaloiloklnbiaaDoorPass
namespace Go.Proofs.YtaaloiloklnbiaaDoor
open Go.RowKit
set_option linter.unusedVariables false
set_option linter.unusedSimpArgs false
structure MakeR where
  us : List User
  fail : Int
  made : Int
  u : User
  code : Int
def noUser : User := ⟨ByteArray.empty, ByteArray.empty⟩
def makeOk (made : Int) (nm pf : ByteArray) (ttl lim key : Int) : Bool := roleOk nm pf ttl lim && (inR key 0 1099511627776 && !(made == 1000000000))
def makeU (us : List User) (fail made : Int) (nm pf : ByteArray) (ttl lim key : Int) : MakeR :=
  if farOk us fail made = true then
    if makeOk made nm pf ttl lim key = true then
      if 0 < fail then ⟨us, fail - 1, made, noUser, 2⟩
      else if bsHit (cfU (nameF nm pf ttl lim (made + 1))) us = true then ⟨us, fail, made + 1, noUser, 3⟩
      else if us.length = 120 then ⟨us, fail, made, noUser, 4⟩
      else ⟨us.take (bsAt (cfU (nameF nm pf ttl lim (made + 1))) us) ++ ⟨nameF nm pf ttl lim (made + 1), passF key (nameF nm pf ttl lim (made + 1))⟩ :: us.drop (bsAt (cfU (nameF nm pf ttl lim (made + 1))) us), fail, made + 1, ⟨nameF nm pf ttl lim (made + 1), passF key (nameF nm pf ttl lim (made + 1))⟩, 0⟩
    else ⟨us, fail, made, noUser, 1⟩
  else ⟨us, fail, made, noUser, 1⟩
abbrev MakeV (A : Option Addr) (c : Nat) (r : MakeR) : Value := .tuple #[.agg #[.slice A r.us.length c, .int .i64 r.fail, .int .i64 r.made], .agg #[.string r.u.name, .string r.u.pass], .int .i64 r.code]
theorem padL_nameCh : ∀ (f n : Nat) (b : UInt8), b ∈ padL f n → nameCh b = true
  | 0, _, _, h => by simp [padL] at h
  | f + 1, n, b, h => by
    rw [padL, List.mem_append] at h
    rcases h with h | h
    · exact padL_nameCh f _ b h
    · have h2 : b = dch n := by simpa using h
      rw [h2]
      have h3 : (dch n).toNat = 48 + n % 10 := by unfold dch; rw [UInt8.toNat_ofNat']; omega
      simp only [nameCh, h3]
      simp
      omega
theorem nameL_ok {nm pf : ByteArray} {ttl lim : Int} (h : roleOk nm pf ttl lim = true) (n : Nat) : isNm (nameL pf n) = true := by
  have h2 : isNm pf = true ∧ pf.size ≤ 6 := by simp [roleOk] at h; exact ⟨h.2.1, by omega⟩
  obtain ⟨h3, h4⟩ := h2
  have h7 : (ByteArray.mk (padL 6 n).toArray).size = 6 := by show (padL 6 n).toArray.size = 6; rw [List.size_toArray, padL_len]
  have hsz : (nameL pf n).size = pf.size + 6 := by rw [nameL, ByteArray.size_append, h7]
  simp only [isNm, Bool.and_eq_true] at h3 ⊢
  refine ⟨?_, ?_⟩
  · rw [hsz]; simp [inR]; omega
  · have h5 := h3.2
    simp only [allB] at h5 ⊢
    have e1 : (nameL pf n).data.toList = pf.data.toList ++ padL 6 n := by simp [nameL]
    rw [e1, List.all_append, h5, Bool.true_and, List.all_eq_true]
    exact fun b hb => padL_nameCh 6 n b hb
set_option maxHeartbeats 8000000 in
set_option maxRecDepth 10000 in
theorem makeUser_hp (A : Option Addr) (n c : Nat) (us : List User) (fail made : Int) (nm pf : ByteArray) (ttl lim key : Int) (r : MakeR) (hq : farOk us fail made = true) (hd : makeU us fail made nm pf ttl lim key = r) (w : World) (hr : Rd w w.heap.size 2 A n c (us.flatMap encUser)) (hn : us.length = n)
    (hs1 : nm.size ≤ maxLen) (hs2 : pf.size ≤ maxLen) (ht : tabOk w) :
    Calls Tryd.prog 32 #[.agg #[.slice A n c, .int .i64 fail, .int .i64 made], .agg #[.string nm, .string pf, .int .i64 ttl, .int .i64 lim], .int .i64 key] w fun e w' => ∃ A' c', e = .returned (MakeV A' c' r) ∧ Hp w w' [rUser A' c' r.us] := by
  have H := Hp.nil w
  subst hn
  have hq2 : us.length ≤ 120 ∧ (0 ≤ fail ∧ fail ≤ 1000) ∧ (0 ≤ made ∧ made ≤ 1000000000) := by simp [farOk, inR] at hq; omega
  obtain ⟨hu1, ⟨hf0, hf1⟩, hm0, hm1⟩ := hq2
  have hri := Lib.hid (farOk_rises hq)
  have hu20 : us.length ≤ 1048576 := by omega
  have HD := Lib.hid hd
  clear hd
  go_enter Tryd.func32, Tryd.ntmps32
  go_wp2_with fail
  refine (cloneFarU_hp A us.length c us fail made _ (hr.grow (Hp.b (by repeat (first | (with_reducible exact H) | (with_reducible apply Hp.alloc) | (with_reducible apply Hp.set) | (with_reducible apply Hp.drew) | (with_reducible apply Hp.drewN) | (with_reducible apply Hp.bytesW) | (with_reducible exact Upd.here) | (with_reducible exact Upd.hereR) | (with_reducible apply Upd.there) | (with_reducible apply Sz.alloc) | (with_reducible apply Sz.set) | (with_reducible apply Sz.drew) | (with_reducible apply Sz.drewN) | (with_reducible apply Sz.bytesW) | (with_reducible assumption) | (with_reducible exact Sz.base _))))) rfl (by omega)).mono ?_
  rintro e w1 ⟨A1, c1, rfl, h1⟩
  replace H := Hp.call (by repeat (first | (with_reducible exact H) | (with_reducible apply Hp.alloc) | (with_reducible apply Hp.set) | (with_reducible apply Hp.drew) | (with_reducible apply Hp.drewN) | (with_reducible apply Hp.bytesW) | (with_reducible exact Upd.here) | (with_reducible exact Upd.hereR) | (with_reducible apply Upd.there) | (with_reducible apply Sz.alloc) | (with_reducible apply Sz.set) | (with_reducible apply Sz.drew) | (with_reducible apply Sz.drewN) | (with_reducible apply Sz.bytesW) | (with_reducible assumption) | (with_reducible exact Sz.base _))) h1; (try simp only [List.set_cons_zero, List.set_cons_succ, List.cons_append, List.nil_append] at H); clear h1
  have F := H.facts; simp only [Facts, NeF, box, row, reg, cellsF, ne_eq, true_and, and_true, Nat.reduceAdd, Nat.zero_add] at F
  cases hro : roleOk nm pf ttl lim with
  | false =>
    have HE : Hid (r = ⟨us, fail, made, noUser, 1⟩) := by show _ = _; rw [← HD.out, makeU, if_pos hq, if_neg (by simp [makeOk, hro])]
    go_wp2_with (first | (go_at_call 37; refine (isRole_any nm pf ttl lim _ hs1 hs2).mono ?_; rintro e w2 ⟨rfl, hb2⟩; rw [hro]; replace H := Hp.step (by repeat (first | (with_reducible exact H) | (with_reducible apply Hp.alloc) | (with_reducible apply Hp.set) | (with_reducible apply Hp.drew) | (with_reducible apply Hp.drewN) | (with_reducible apply Hp.bytesW) | (with_reducible exact Upd.here) | (with_reducible exact Upd.hereR) | (with_reducible apply Upd.there) | (with_reducible apply Sz.alloc) | (with_reducible apply Sz.set) | (with_reducible apply Sz.drew) | (with_reducible apply Sz.drewN) | (with_reducible apply Sz.bytesW) | (with_reducible assumption) | (with_reducible exact Sz.base _))) hb2; (try simp only [List.set_cons_zero, List.set_cons_succ, List.cons_append, List.nil_append] at H); clear hb2 F; have F := H.facts; simp only [Facts, NeF, box, row, reg, cellsF, ne_eq, true_and, and_true, Nat.reduceAdd, Nat.zero_add] at F))
    rw [HE.out]
    refine bodyPost_ret (v := .tuple #[.agg #[.slice A1 us.length c1, .int .i64 fail, .int .i64 made], .agg #[.string ⟨#[]⟩, .string ⟨#[]⟩], .int .i64 1]) (by simp [results, Tryd.results32, go_sem, F] <;> omega) rfl ⟨A1, c1, rfl, (by refine Hp.sel (by repeat (first | (with_reducible exact H) | (with_reducible apply Hp.alloc) | (with_reducible apply Hp.set) | (with_reducible apply Hp.drew) | (with_reducible apply Hp.drewN) | (with_reducible apply Hp.bytesW) | (with_reducible exact Upd.here) | (with_reducible exact Upd.hereR) | (with_reducible apply Upd.there) | (with_reducible apply Sz.alloc) | (with_reducible apply Sz.set) | (with_reducible apply Sz.drew) | (with_reducible apply Sz.drewN) | (with_reducible apply Sz.bytesW) | (with_reducible assumption) | (with_reducible exact Sz.base _))) ?_; (try simp only [List.set_cons_zero, List.set_cons_succ]); exact (by repeat (first | (with_reducible exact Sel.nil) | (with_reducible apply Sel.cons) | (with_reducible exact Del.here) | (with_reducible apply Del.there))))⟩
  | true =>
  cases hk : inR key 0 1099511627776 with
  | false =>
    have HE : Hid (r = ⟨us, fail, made, noUser, 1⟩) := by show _ = _; rw [← HD.out, makeU, if_pos hq, if_neg (by simp [makeOk, hk])]
    go_wp2_with (first | (go_at_call 37; refine (isRole_any nm pf ttl lim _ hs1 hs2).mono ?_; rintro e w2 ⟨rfl, hb2⟩; rw [hro]; replace H := Hp.step (by repeat (first | (with_reducible exact H) | (with_reducible apply Hp.alloc) | (with_reducible apply Hp.set) | (with_reducible apply Hp.drew) | (with_reducible apply Hp.drewN) | (with_reducible apply Hp.bytesW) | (with_reducible exact Upd.here) | (with_reducible exact Upd.hereR) | (with_reducible apply Upd.there) | (with_reducible apply Sz.alloc) | (with_reducible apply Sz.set) | (with_reducible apply Sz.drew) | (with_reducible apply Sz.drewN) | (with_reducible apply Sz.bytesW) | (with_reducible assumption) | (with_reducible exact Sz.base _))) hb2; (try simp only [List.set_cons_zero, List.set_cons_succ, List.cons_append, List.nil_append] at H); clear hb2 F; have F := H.facts; simp only [Facts, NeF, box, row, reg, cellsF, ne_eq, true_and, and_true, Nat.reduceAdd, Nat.zero_add] at F) | (go_at_call 34; refine (isKey_any _ _).mono ?_; rintro e w' ⟨rfl, rfl⟩; rw [hk]))
    rw [HE.out]
    refine bodyPost_ret (v := .tuple #[.agg #[.slice A1 us.length c1, .int .i64 fail, .int .i64 made], .agg #[.string ⟨#[]⟩, .string ⟨#[]⟩], .int .i64 1]) (by simp [results, Tryd.results32, go_sem, F] <;> omega) rfl ⟨A1, c1, rfl, (by refine Hp.sel (by repeat (first | (with_reducible exact H) | (with_reducible apply Hp.alloc) | (with_reducible apply Hp.set) | (with_reducible apply Hp.drew) | (with_reducible apply Hp.drewN) | (with_reducible apply Hp.bytesW) | (with_reducible exact Upd.here) | (with_reducible exact Upd.hereR) | (with_reducible apply Upd.there) | (with_reducible apply Sz.alloc) | (with_reducible apply Sz.set) | (with_reducible apply Sz.drew) | (with_reducible apply Sz.drewN) | (with_reducible apply Sz.bytesW) | (with_reducible assumption) | (with_reducible exact Sz.base _))) ?_; (try simp only [List.set_cons_zero, List.set_cons_succ]); exact (by repeat (first | (with_reducible exact Sel.nil) | (with_reducible apply Sel.cons) | (with_reducible exact Del.here) | (with_reducible apply Del.there))))⟩
  | true =>
  by_cases hmd : made = 1000000000
  · have HE : Hid (r = ⟨us, fail, made, noUser, 1⟩) := by show _ = _; rw [← HD.out, makeU, if_pos hq, if_neg (by simp [makeOk, hmd])]
    go_wp2_with (first | (go_at_call 37; refine (isRole_any nm pf ttl lim _ hs1 hs2).mono ?_; rintro e w2 ⟨rfl, hb2⟩; rw [hro]; replace H := Hp.step (by repeat (first | (with_reducible exact H) | (with_reducible apply Hp.alloc) | (with_reducible apply Hp.set) | (with_reducible apply Hp.drew) | (with_reducible apply Hp.drewN) | (with_reducible apply Hp.bytesW) | (with_reducible exact Upd.here) | (with_reducible exact Upd.hereR) | (with_reducible apply Upd.there) | (with_reducible apply Sz.alloc) | (with_reducible apply Sz.set) | (with_reducible apply Sz.drew) | (with_reducible apply Sz.drewN) | (with_reducible apply Sz.bytesW) | (with_reducible assumption) | (with_reducible exact Sz.base _))) hb2; (try simp only [List.set_cons_zero, List.set_cons_succ, List.cons_append, List.nil_append] at H); clear hb2 F; have F := H.facts; simp only [Facts, NeF, box, row, reg, cellsF, ne_eq, true_and, and_true, Nat.reduceAdd, Nat.zero_add] at F) | (go_at_call 34; refine (isKey_any _ _).mono ?_; rintro e w' ⟨rfl, rfl⟩; rw [hk]))
    rw [HE.out]
    refine bodyPost_ret (v := .tuple #[.agg #[.slice A1 us.length c1, .int .i64 fail, .int .i64 made], .agg #[.string ⟨#[]⟩, .string ⟨#[]⟩], .int .i64 1]) (by simp [results, Tryd.results32, go_sem, F] <;> omega) rfl ⟨A1, c1, rfl, (by refine Hp.sel (by repeat (first | (with_reducible exact H) | (with_reducible apply Hp.alloc) | (with_reducible apply Hp.set) | (with_reducible apply Hp.drew) | (with_reducible apply Hp.drewN) | (with_reducible apply Hp.bytesW) | (with_reducible exact Upd.here) | (with_reducible exact Upd.hereR) | (with_reducible apply Upd.there) | (with_reducible apply Sz.alloc) | (with_reducible apply Sz.set) | (with_reducible apply Sz.drew) | (with_reducible apply Sz.drewN) | (with_reducible apply Sz.bytesW) | (with_reducible assumption) | (with_reducible exact Sz.base _))) ?_; (try simp only [List.set_cons_zero, List.set_cons_succ]); exact (by repeat (first | (with_reducible exact Sel.nil) | (with_reducible apply Sel.cons) | (with_reducible exact Del.here) | (with_reducible apply Del.there))))⟩
  have hmk : makeOk made nm pf ttl lim key = true := by simp [makeOk, hro, hk, hmd]
  have HD1 : Hid ((if 0 < fail then (⟨us, fail - 1, made, noUser, 2⟩ : MakeR)
      else if bsHit (cfU (nameF nm pf ttl lim (made + 1))) us = true then ⟨us, fail, made + 1, noUser, 3⟩
      else if us.length = 120 then ⟨us, fail, made, noUser, 4⟩
      else ⟨us.take (bsAt (cfU (nameF nm pf ttl lim (made + 1))) us) ++ ⟨nameF nm pf ttl lim (made + 1), passF key (nameF nm pf ttl lim (made + 1))⟩ :: us.drop (bsAt (cfU (nameF nm pf ttl lim (made + 1))) us), fail, made + 1, ⟨nameF nm pf ttl lim (made + 1), passF key (nameF nm pf ttl lim (made + 1))⟩, 0⟩) = r) := by
    have h9 := HD.out
    rw [makeU, if_pos hq, if_pos hmk] at h9
    exact h9
  by_cases hfl : 0 < fail
  · have HE : Hid (r = ⟨us, fail - 1, made, noUser, 2⟩) := by show _ = _; rw [← HD1.out, if_pos hfl]
    go_wp2_with (first | (go_at_call 37; refine (isRole_any nm pf ttl lim _ hs1 hs2).mono ?_; rintro e w2 ⟨rfl, hb2⟩; rw [hro]; replace H := Hp.step (by repeat (first | (with_reducible exact H) | (with_reducible apply Hp.alloc) | (with_reducible apply Hp.set) | (with_reducible apply Hp.drew) | (with_reducible apply Hp.drewN) | (with_reducible apply Hp.bytesW) | (with_reducible exact Upd.here) | (with_reducible exact Upd.hereR) | (with_reducible apply Upd.there) | (with_reducible apply Sz.alloc) | (with_reducible apply Sz.set) | (with_reducible apply Sz.drew) | (with_reducible apply Sz.drewN) | (with_reducible apply Sz.bytesW) | (with_reducible assumption) | (with_reducible exact Sz.base _))) hb2; (try simp only [List.set_cons_zero, List.set_cons_succ, List.cons_append, List.nil_append] at H); clear hb2 F; have F := H.facts; simp only [Facts, NeF, box, row, reg, cellsF, ne_eq, true_and, and_true, Nat.reduceAdd, Nat.zero_add] at F) | (go_at_call 34; refine (isKey_any _ _).mono ?_; rintro e w' ⟨rfl, rfl⟩; rw [hk]))
    rw [HE.out]
    refine bodyPost_ret (v := .tuple #[.agg #[.slice A1 us.length c1, .int .i64 (fail - 1), .int .i64 made], .agg #[.string ⟨#[]⟩, .string ⟨#[]⟩], .int .i64 2]) (by simp [results, Tryd.results32, go_sem, F]) rfl ⟨A1, c1, rfl, (by refine Hp.sel (by repeat (first | (with_reducible exact H) | (with_reducible apply Hp.alloc) | (with_reducible apply Hp.set) | (with_reducible apply Hp.drew) | (with_reducible apply Hp.drewN) | (with_reducible apply Hp.bytesW) | (with_reducible exact Upd.here) | (with_reducible exact Upd.hereR) | (with_reducible apply Upd.there) | (with_reducible apply Sz.alloc) | (with_reducible apply Sz.set) | (with_reducible apply Sz.drew) | (with_reducible apply Sz.drewN) | (with_reducible apply Sz.bytesW) | (with_reducible assumption) | (with_reducible exact Sz.base _))) ?_; (try simp only [List.set_cons_zero, List.set_cons_succ]); exact (by repeat (first | (with_reducible exact Sel.nil) | (with_reducible apply Sel.cons) | (with_reducible exact Del.here) | (with_reducible apply Del.there))))⟩
  have HUN : Hid (∀ W, tabOk W → Calls Tryd.prog 39 #[.agg #[.string nm, .string pf, .int .i64 ttl, .int .i64 lim], .int .i64 (made + 1)] W fun e w' => e = .returned (.string (nameF nm pf ttl lim (made + 1))) ∧ Below W.heap.size W w') := by
    intro W h
    have h5 := userName_any nm pf ttl lim (made + 1).toNat W (by omega) (role_pf hro) h
    rw [Int.toNat_of_nonneg (by omega)] at h5
    have h6 : nameF nm pf ttl lim (made + 1) = nameL pf (made + 1).toNat := by rw [nameF, if_pos ⟨hro, by simp [inR]; omega⟩]
    rw [h6]
    exact h5
  have HUP : Hid (∀ W, tabOk W → Calls Tryd.prog 36 #[.int .i64 key, .string (nameF nm pf ttl lim (made + 1))] W fun e w' => e = .returned (.string (passF key (nameF nm pf ttl lim (made + 1)))) ∧ Below W.heap.size W w') := by
    intro W h
    have h6 : nameF nm pf ttl lim (made + 1) = nameL pf (made + 1).toNat := by rw [nameF, if_pos ⟨hro, by simp [inR]; omega⟩]
    have hnm := nameL_ok hro (made + 1).toNat
    obtain ⟨k0, k1⟩ := inR_true.1 hk
    have h5 := userPass_any key.toNat (nameL pf (made + 1).toNat) W (nm_size hnm) (by omega) h
    rw [Int.toNat_of_nonneg (by omega)] at h5
    rw [h6, passF, if_pos ⟨hk, hnm⟩]
    exact h5
  rw [if_neg hfl] at HD1
  generalize hnf : nameF nm pf ttl lim (made + 1) = s at *
  generalize hpf : passF key s = p at *
  clear hnf hpf
  cases hh : bsHit (cfU s) us with
  | true =>
    have HE : Hid (r = ⟨us, fail, made + 1, noUser, 3⟩) := by show _ = _; rw [← HD1.out, if_pos hh]
    go_wp2_with (first | (go_at_call 37; refine (isRole_any nm pf ttl lim _ hs1 hs2).mono ?_; rintro e w2 ⟨rfl, hb2⟩; rw [hro]; replace H := Hp.step (by repeat (first | (with_reducible exact H) | (with_reducible apply Hp.alloc) | (with_reducible apply Hp.set) | (with_reducible apply Hp.drew) | (with_reducible apply Hp.drewN) | (with_reducible apply Hp.bytesW) | (with_reducible exact Upd.here) | (with_reducible exact Upd.hereR) | (with_reducible apply Upd.there) | (with_reducible apply Sz.alloc) | (with_reducible apply Sz.set) | (with_reducible apply Sz.drew) | (with_reducible apply Sz.drewN) | (with_reducible apply Sz.bytesW) | (with_reducible assumption) | (with_reducible exact Sz.base _))) hb2; (try simp only [List.set_cons_zero, List.set_cons_succ, List.cons_append, List.nil_append] at H); clear hb2 F; have F := H.facts; simp only [Facts, NeF, box, row, reg, cellsF, ne_eq, true_and, and_true, Nat.reduceAdd, Nat.zero_add] at F) | (go_at_call 34; refine (isKey_any _ _).mono ?_; rintro e w' ⟨rfl, rfl⟩; rw [hk]) | (go_at_call 39; refine (HUN.out _ (ht.on (Hp.b (by repeat (first | (with_reducible exact H) | (with_reducible apply Hp.alloc) | (with_reducible apply Hp.set) | (with_reducible apply Hp.drew) | (with_reducible apply Hp.drewN) | (with_reducible apply Hp.bytesW) | (with_reducible exact Upd.here) | (with_reducible exact Upd.hereR) | (with_reducible apply Upd.there) | (with_reducible apply Sz.alloc) | (with_reducible apply Sz.set) | (with_reducible apply Sz.drew) | (with_reducible apply Sz.drewN) | (with_reducible apply Sz.bytesW) | (with_reducible assumption) | (with_reducible exact Sz.base _)))))).mono ?_; rintro e w3 ⟨rfl, hb3⟩; replace H := Hp.step (by repeat (first | (with_reducible exact H) | (with_reducible apply Hp.alloc) | (with_reducible apply Hp.set) | (with_reducible apply Hp.drew) | (with_reducible apply Hp.drewN) | (with_reducible apply Hp.bytesW) | (with_reducible exact Upd.here) | (with_reducible exact Upd.hereR) | (with_reducible apply Upd.there) | (with_reducible apply Sz.alloc) | (with_reducible apply Sz.set) | (with_reducible apply Sz.drew) | (with_reducible apply Sz.drewN) | (with_reducible apply Sz.bytesW) | (with_reducible assumption) | (with_reducible exact Sz.base _))) hb3; (try simp only [List.set_cons_zero, List.set_cons_succ, List.cons_append, List.nil_append] at H); clear hb3 F; have F := H.facts; simp only [Facts, NeF, box, row, reg, cellsF, ne_eq, true_and, and_true, Nat.reduceAdd, Nat.zero_add] at F) | (go_at_call 59; refine (userIndex_any A us.length c us fail made s _ (hr.grow (Hp.b (by repeat (first | (with_reducible exact H) | (with_reducible apply Hp.alloc) | (with_reducible apply Hp.set) | (with_reducible apply Hp.drew) | (with_reducible apply Hp.drewN) | (with_reducible apply Hp.bytesW) | (with_reducible exact Upd.here) | (with_reducible exact Upd.hereR) | (with_reducible apply Upd.there) | (with_reducible apply Sz.alloc) | (with_reducible apply Sz.set) | (with_reducible apply Sz.drew) | (with_reducible apply Sz.drewN) | (with_reducible apply Sz.bytesW) | (with_reducible assumption) | (with_reducible exact Sz.base _))))) rfl hu20 hri.out).mono ?_; rintro e w4 ⟨rfl, hb4⟩; rw [hh]; replace H := Hp.step (by repeat (first | (with_reducible exact H) | (with_reducible apply Hp.alloc) | (with_reducible apply Hp.set) | (with_reducible apply Hp.drew) | (with_reducible apply Hp.drewN) | (with_reducible apply Hp.bytesW) | (with_reducible exact Upd.here) | (with_reducible exact Upd.hereR) | (with_reducible apply Upd.there) | (with_reducible apply Sz.alloc) | (with_reducible apply Sz.set) | (with_reducible apply Sz.drew) | (with_reducible apply Sz.drewN) | (with_reducible apply Sz.bytesW) | (with_reducible assumption) | (with_reducible exact Sz.base _))) hb4; (try simp only [List.set_cons_zero, List.set_cons_succ, List.cons_append, List.nil_append] at H); clear hb4 F; have F := H.facts; simp only [Facts, NeF, box, row, reg, cellsF, ne_eq, true_and, and_true, Nat.reduceAdd, Nat.zero_add] at F))
    rw [HE.out]
    refine bodyPost_ret (v := .tuple #[.agg #[.slice A1 us.length c1, .int .i64 fail, .int .i64 (made + 1)], .agg #[.string ⟨#[]⟩, .string ⟨#[]⟩], .int .i64 3]) (by simp [results, Tryd.results32, go_sem, F] <;> omega) rfl ⟨A1, c1, rfl, (by refine Hp.sel (by repeat (first | (with_reducible exact H) | (with_reducible apply Hp.alloc) | (with_reducible apply Hp.set) | (with_reducible apply Hp.drew) | (with_reducible apply Hp.drewN) | (with_reducible apply Hp.bytesW) | (with_reducible exact Upd.here) | (with_reducible exact Upd.hereR) | (with_reducible apply Upd.there) | (with_reducible apply Sz.alloc) | (with_reducible apply Sz.set) | (with_reducible apply Sz.drew) | (with_reducible apply Sz.drewN) | (with_reducible apply Sz.bytesW) | (with_reducible assumption) | (with_reducible exact Sz.base _))) ?_; (try simp only [List.set_cons_zero, List.set_cons_succ]); exact (by repeat (first | (with_reducible exact Sel.nil) | (with_reducible apply Sel.cons) | (with_reducible exact Del.here) | (with_reducible apply Del.there))))⟩
  | false =>
  rw [if_neg (by rw [hh]; decide)] at HD1
  have hpos := ins_pos hri.out hh
  have hi1 := hpos.1
  clear hpos
  have hlen : ∀ i, i ≤ us.length → (us.take i ++ (⟨s, p⟩ : User) :: us.drop i).length = us.length + 1 := fun i hi => by rw [List.length_append, List.length_cons, List.length_take, List.length_drop]; omega
  have HLN := Lib.hid (hlen _ hi1)
  clear hlen
  go_wp2_with (first | (go_at_call 37; refine (isRole_any nm pf ttl lim _ hs1 hs2).mono ?_; rintro e w2 ⟨rfl, hb2⟩; rw [hro]; replace H := Hp.step (by repeat (first | (with_reducible exact H) | (with_reducible apply Hp.alloc) | (with_reducible apply Hp.set) | (with_reducible apply Hp.drew) | (with_reducible apply Hp.drewN) | (with_reducible apply Hp.bytesW) | (with_reducible exact Upd.here) | (with_reducible exact Upd.hereR) | (with_reducible apply Upd.there) | (with_reducible apply Sz.alloc) | (with_reducible apply Sz.set) | (with_reducible apply Sz.drew) | (with_reducible apply Sz.drewN) | (with_reducible apply Sz.bytesW) | (with_reducible assumption) | (with_reducible exact Sz.base _))) hb2; (try simp only [List.set_cons_zero, List.set_cons_succ, List.cons_append, List.nil_append] at H); clear hb2 F; have F := H.facts; simp only [Facts, NeF, box, row, reg, cellsF, ne_eq, true_and, and_true, Nat.reduceAdd, Nat.zero_add] at F) | (go_at_call 34; refine (isKey_any _ _).mono ?_; rintro e w' ⟨rfl, rfl⟩; rw [hk]) | (go_at_call 39; refine (HUN.out _ (ht.on (Hp.b (by repeat (first | (with_reducible exact H) | (with_reducible apply Hp.alloc) | (with_reducible apply Hp.set) | (with_reducible apply Hp.drew) | (with_reducible apply Hp.drewN) | (with_reducible apply Hp.bytesW) | (with_reducible exact Upd.here) | (with_reducible exact Upd.hereR) | (with_reducible apply Upd.there) | (with_reducible apply Sz.alloc) | (with_reducible apply Sz.set) | (with_reducible apply Sz.drew) | (with_reducible apply Sz.drewN) | (with_reducible apply Sz.bytesW) | (with_reducible assumption) | (with_reducible exact Sz.base _)))))).mono ?_; rintro e w3 ⟨rfl, hb3⟩; replace H := Hp.step (by repeat (first | (with_reducible exact H) | (with_reducible apply Hp.alloc) | (with_reducible apply Hp.set) | (with_reducible apply Hp.drew) | (with_reducible apply Hp.drewN) | (with_reducible apply Hp.bytesW) | (with_reducible exact Upd.here) | (with_reducible exact Upd.hereR) | (with_reducible apply Upd.there) | (with_reducible apply Sz.alloc) | (with_reducible apply Sz.set) | (with_reducible apply Sz.drew) | (with_reducible apply Sz.drewN) | (with_reducible apply Sz.bytesW) | (with_reducible assumption) | (with_reducible exact Sz.base _))) hb3; (try simp only [List.set_cons_zero, List.set_cons_succ, List.cons_append, List.nil_append] at H); clear hb3 F; have F := H.facts; simp only [Facts, NeF, box, row, reg, cellsF, ne_eq, true_and, and_true, Nat.reduceAdd, Nat.zero_add] at F) | (go_at_call 59; refine (userIndex_any A us.length c us fail made s _ (hr.grow (Hp.b (by repeat (first | (with_reducible exact H) | (with_reducible apply Hp.alloc) | (with_reducible apply Hp.set) | (with_reducible apply Hp.drew) | (with_reducible apply Hp.drewN) | (with_reducible apply Hp.bytesW) | (with_reducible exact Upd.here) | (with_reducible exact Upd.hereR) | (with_reducible apply Upd.there) | (with_reducible apply Sz.alloc) | (with_reducible apply Sz.set) | (with_reducible apply Sz.drew) | (with_reducible apply Sz.drewN) | (with_reducible apply Sz.bytesW) | (with_reducible assumption) | (with_reducible exact Sz.base _))))) rfl hu20 hri.out).mono ?_; rintro e w4 ⟨rfl, hb4⟩; rw [hh]; replace H := Hp.step (by repeat (first | (with_reducible exact H) | (with_reducible apply Hp.alloc) | (with_reducible apply Hp.set) | (with_reducible apply Hp.drew) | (with_reducible apply Hp.drewN) | (with_reducible apply Hp.bytesW) | (with_reducible exact Upd.here) | (with_reducible exact Upd.hereR) | (with_reducible apply Upd.there) | (with_reducible apply Sz.alloc) | (with_reducible apply Sz.set) | (with_reducible apply Sz.drew) | (with_reducible apply Sz.drewN) | (with_reducible apply Sz.bytesW) | (with_reducible assumption) | (with_reducible exact Sz.base _))) hb4; (try simp only [List.set_cons_zero, List.set_cons_succ, List.cons_append, List.nil_append] at H); clear hb4 F; have F := H.facts; simp only [Facts, NeF, box, row, reg, cellsF, ne_eq, true_and, and_true, Nat.reduceAdd, Nat.zero_add] at F))
  · have HE : Hid (r = ⟨us, fail, made, noUser, 4⟩) := by have h9 : us.length = 120 := (by have hx := ‹((us.length : Int) == 120) = true›; simp at hx; omega); show _ = _; rw [← HD1.out, if_pos h9]
    rw [HE.out]
    refine bodyPost_ret (v := .tuple #[.agg #[.slice A1 us.length c1, .int .i64 fail, .int .i64 made], .agg #[.string ⟨#[]⟩, .string ⟨#[]⟩], .int .i64 4]) (by simp [results, Tryd.results32, go_sem, F] <;> omega) rfl ⟨A1, c1, rfl, (by refine Hp.sel (by repeat (first | (with_reducible exact H) | (with_reducible apply Hp.alloc) | (with_reducible apply Hp.set) | (with_reducible apply Hp.drew) | (with_reducible apply Hp.drewN) | (with_reducible apply Hp.bytesW) | (with_reducible exact Upd.here) | (with_reducible exact Upd.hereR) | (with_reducible apply Upd.there) | (with_reducible apply Sz.alloc) | (with_reducible apply Sz.set) | (with_reducible apply Sz.drew) | (with_reducible apply Sz.drewN) | (with_reducible apply Sz.bytesW) | (with_reducible assumption) | (with_reducible exact Sz.base _))) ?_; (try simp only [List.set_cons_zero, List.set_cons_succ]); exact (by repeat (first | (with_reducible exact Sel.nil) | (with_reducible apply Sel.cons) | (with_reducible exact Del.here) | (with_reducible apply Del.there))))⟩
  · have HE : Hid (r = ⟨us.take (bsAt (cfU s) us) ++ ⟨s, p⟩ :: us.drop (bsAt (cfU s) us), fail, made + 1, ⟨s, p⟩, 0⟩) := by have h9 : ¬ us.length = 120 := (by have hx := ‹((us.length : Int) == 120) = false›; simp at hx; omega); show _ = _; rw [← HD1.out, if_neg h9]
    refine (HUP.out _ (ht.on (Hp.b (by repeat (first | (with_reducible exact H) | (with_reducible apply Hp.alloc) | (with_reducible apply Hp.set) | (with_reducible apply Hp.drew) | (with_reducible apply Hp.drewN) | (with_reducible apply Hp.bytesW) | (with_reducible exact Upd.here) | (with_reducible exact Upd.hereR) | (with_reducible apply Upd.there) | (with_reducible apply Sz.alloc) | (with_reducible apply Sz.set) | (with_reducible apply Sz.drew) | (with_reducible apply Sz.drewN) | (with_reducible apply Sz.bytesW) | (with_reducible assumption) | (with_reducible exact Sz.base _)))))).mono ?_
    rintro e w5 ⟨rfl, hb5⟩
    replace H := Hp.step (by repeat (first | (with_reducible exact H) | (with_reducible apply Hp.alloc) | (with_reducible apply Hp.set) | (with_reducible apply Hp.drew) | (with_reducible apply Hp.drewN) | (with_reducible apply Hp.bytesW) | (with_reducible exact Upd.here) | (with_reducible exact Upd.hereR) | (with_reducible apply Upd.there) | (with_reducible apply Sz.alloc) | (with_reducible apply Sz.set) | (with_reducible apply Sz.drew) | (with_reducible apply Sz.drewN) | (with_reducible apply Sz.bytesW) | (with_reducible assumption) | (with_reducible exact Sz.base _))) hb5; (try simp only [List.set_cons_zero, List.set_cons_succ, List.cons_append, List.nil_append] at H)
    clear hb5 F
    have F := H.facts; simp only [Facts, NeF, box, row, reg, cellsF, ne_eq, true_and, and_true, Nat.reduceAdd, Nat.zero_add] at F
    clear HUN HUP HD HD1 hq hri
    have H120 := Lib.hid hu1
    clear hu1
    go_wp2_with fail
    refine (insUser_hp A1 c1 (bsAt (cfU s) us) _ us ⟨s, p⟩ (by repeat (first | (with_reducible exact H) | (with_reducible apply Hp.alloc) | (with_reducible apply Hp.set) | (with_reducible apply Hp.drew) | (with_reducible apply Hp.drewN) | (with_reducible apply Hp.bytesW) | (with_reducible exact Upd.here) | (with_reducible exact Upd.hereR) | (with_reducible apply Upd.there) | (with_reducible apply Sz.alloc) | (with_reducible apply Sz.set) | (with_reducible apply Sz.drew) | (with_reducible apply Sz.drewN) | (with_reducible apply Sz.bytesW) | (with_reducible assumption) | (with_reducible exact Sz.base _))) (by repeat (first | (with_reducible exact List.mem_cons_self) | (with_reducible apply List.mem_cons_of_mem))) (by show box _ _ [Value.string s, Value.string p] ∈ _; exact (by repeat (first | (with_reducible exact List.mem_cons_self) | (with_reducible apply List.mem_cons_of_mem)))) hu20 hi1 (fun a ha => by have h9 := ((H.ok (rUser A1 c1 us) (by repeat (first | (with_reducible exact List.mem_cons_self) | (with_reducible apply List.mem_cons_of_mem)))).lt a.block (by show (Value.slice A1 us.length c1).ownBlock = some a.block; rw [ha]; rfl)).2; omega)).mono ?_
    rintro e w6 ⟨A6, c6, rfl, h6⟩
    replace H := h6 _ (by repeat (first | (with_reducible exact Rep.here) | (with_reducible apply Rep.there)))
    (try simp only [List.set_cons_zero, List.set_cons_succ, List.cons_append, List.nil_append] at H)
    clear h6 F
    have F := H.facts; simp only [Facts, NeF, box, row, reg, cellsF, ne_eq, true_and, and_true, Nat.reduceAdd, Nat.zero_add] at F
    go_wp2_with fail
    go_region
    go_wp2_with fail
    have hE := HE.out
    subst hE
    refine bodyPost_ret (v := .tuple #[.agg #[.slice A6 (us.length + 1) c6, .int .i64 fail, .int .i64 (made + 1)], .agg #[.string s, .string p], .int .i64 0]) (by simp [results, Tryd.results32, go_sem, F] <;> omega) rfl ⟨A6, c6, by rw [← HLN.out], (by refine Hp.sel (by repeat (first | (with_reducible exact H) | (with_reducible apply Hp.alloc) | (with_reducible apply Hp.set) | (with_reducible apply Hp.drew) | (with_reducible apply Hp.drewN) | (with_reducible apply Hp.bytesW) | (with_reducible exact Upd.here) | (with_reducible exact Upd.hereR) | (with_reducible apply Upd.there) | (with_reducible apply Sz.alloc) | (with_reducible apply Sz.set) | (with_reducible apply Sz.drew) | (with_reducible apply Sz.drewN) | (with_reducible apply Sz.bytesW) | (with_reducible assumption) | (with_reducible exact Sz.base _))) ?_; (try simp only [List.set_cons_zero, List.set_cons_succ]); exact (by repeat (first | (with_reducible exact Sel.nil) | (with_reducible apply Sel.cons) | (with_reducible exact Del.here) | (with_reducible apply Del.there))))⟩
end Go.Proofs.YtaaloiloklnbiaaDoor

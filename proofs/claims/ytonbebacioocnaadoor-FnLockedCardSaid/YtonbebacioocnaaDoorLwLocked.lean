/- The walk of FnLocked. No condition. -/
import Derived.Test.YtonbebacioocnaaDoorLwCodes
namespace Go.Proofs.YtonbebacioocnaaDoor
open Go.RowKit
set_option linter.unusedVariables false
set_option linter.unusedSimpArgs false
attribute [local go_sem ↓] Go.wp_at_zero Go.wp_at_succ
set_option maxHeartbeats 1000000 in
theorem at_any (A : Option Addr) (n c i : Nat) (bs : List UInt8) (w0 w : World) (hb : Below w0.heap.size w0 w) (hr : Rd w0 w0.heap.size 1 A n c (bs.flatMap encByte)) (hn : bs.length = n) (hi : i ≤ 1000) (hn20 : n ≤ 1048576) :
    Calls Tryd.prog 32 #[.slice A n c, .int .i64 i] w fun e w' => ∃ v : Int, e = .returned (.int .i64 v) ∧ (0 ≤ v ∧ v ≤ 255) ∧ w = w' := by
  have hc := hr.2.1
  have hm := hr.2.2.1
  unfold maxLen at hm
  by_cases hlt : i < n
  · obtain ⟨b, off, rfl, hb0, hcell⟩ := hr.elem encByte_len hn hlt
    have c0 := hb.cell (p := ⟨b, off + i * 1 + 0, none⟩) hb0 |>.trans (hcell 0 _ rfl)
    simp only [Nat.add_zero, Nat.mul_one] at c0
    clear hcell
    generalize bs[i] = y at *
    have hy := y.toNat_lt
    have hi1 : (i : Int) < (n : Int) := by omega
    have hi0 : (0 : Int) ≤ (i : Int) := by omega
    go_enter Tryd.func32, Tryd.ntmps32
    go_wp2
    go_ret
    exact ⟨_, rfl, by first | omega | (unfold wrap64; omega), rfl⟩
  · have hi1 : ¬ (i : Int) < (n : Int) := by omega
    go_enter Tryd.func32, Tryd.ntmps32
    go_wp2
    go_ret
    exact ⟨_, rfl, by first | omega | (unfold wrap64; omega) | (trace_state; sorry), rfl⟩
theorem findC_none {P : Nat → Bool} (h : ∀ x, P x = false) : ∀ m c, findC P m c = none
  | 0, _ => rfl
  | m + 1, c => by rw [findC, h c]; exact findC_none h m (c + 1)
theorem codeT_ne (k x : Nat) (s : ByteArray) (hs : s.size = 5) : eqB (codeT k x) s = false := by
  cases he : eqB (codeT k x) s with
  | false => rfl
  | true =>
    have h := eqB_iff.1 he
    have h2 : (codeT k x).size = 6 := by
      show (codeL k x).toArray.size = 6
      rw [List.size_toArray, codeL, padL_len]
    rw [h, hs] at h2
    omega
theorem chk_wrong (kn cn : Nat) (f til win now : Int) (s : ByteArray) (hs : s.size = 5) (hk : kn ≤ 1099511627776) (hc : cn ≤ 1000000000) (hf : 0 ≤ f ∧ f ≤ 1000) (ht : 0 ≤ til ∧ til ≤ now) (hn : now ≤ 1000000000) (hw : 0 ≤ win ∧ win ≤ 20) :
    checkV kn cn f til s win now = wrongC kn cn f til now := by
  have hd : devOk kn cn f til = true := devOk_iff.2 (by omega)
  rw [checkV, if_pos ⟨hd, inR_true.2 hw, inR_true.2 (by omega)⟩, chkIn, if_neg (by omega)]
  rw [findC_none (fun x => codeT_ne _ x s hs)]
  rfl
theorem chk_lock (kn cn : Nat) (f til now : Int) (s : ByteArray) (hk : kn ≤ 1099511627776) (hc : cn ≤ 1000000000) (hf : 0 ≤ f ∧ f ≤ 1000) (ht : now < til ∧ til ≤ 2000000000) (hn : 0 ≤ now ∧ now ≤ 1000000000) :
    checkV kn cn f til s 0 now = ⟨kn, cn, f, til, 2⟩ := by
  have hd : devOk kn cn f til = true := devOk_iff.2 (by omega)
  rw [checkV, if_pos ⟨hd, by decide, inR_true.2 (by omega)⟩, chkIn, if_pos (by omega)]
theorem chk_free (kn cn : Nat) (f til now : Int) (hk : kn ≤ 1099511627776) (hc : cn + 1 ≤ 1000000000) (hf : 0 ≤ f ∧ f ≤ 1000) (ht : 0 ≤ til ∧ til ≤ now) (hn : now ≤ 1000000000) :
    checkV kn cn f til (codeT kn cn) 0 now = ⟨kn, cn + 1, 0, 0, 0⟩ := by
  have hd : devOk kn cn f til = true := devOk_iff.2 (by omega)
  rw [checkV, if_pos ⟨hd, by decide, inR_true.2 (by omega)⟩, chkIn, if_neg (by omega)]
  have e : (min ((cn : Int) + 0) 1000000000).toNat + 1 - (cn : Int).toNat = 1 := by omega
  rw [e]
  simp only [Int.toNat_natCast, findC]
  rw [if_pos (eqB_iff.2 rfl)]
  show (⟨kn, leastI (cn + 1) 1000000000, 0, 0, 0⟩ : Chk) = _
  rw [leastI]
  split
  · rfl
  · congr 1; omega
def waitL (i : Nat) : Int := if 3 ≤ i then waitOf i else 0
def nowL : Nat → Int
  | 0 => 0
  | x + 1 => nowL x + waitL (x + 1)
def tilL (x : Nat) : Int := if 3 ≤ x then nowL x else 0
theorem waitL_bd (i : Nat) : 0 ≤ waitL i ∧ waitL i ≤ 4096 := by
  unfold waitL
  split
  · have := waitOf_bd (f := (i : Int)) (by omega); omega
  · omega
theorem nowL_bd : ∀ x : Nat, 0 ≤ nowL x ∧ nowL x ≤ 4096 * x
  | 0 => by simp [nowL]
  | x + 1 => by
    have h1 := nowL_bd x
    have h2 := waitL_bd (x + 1)
    simp only [nowL]
    omega
theorem tilL_bd (x : Nat) : 0 ≤ tilL x ∧ tilL x ≤ nowL x := by
  have := nowL_bd x
  unfold tilL
  split <;> omega
theorem wrong_L (kn cn x : Nat) (hx : x < 18) : wrongC kn cn x (tilL x) (nowL x) = ⟨kn, cn, (x : Int) + 1, tilL (x + 1), 3⟩ := by
  have e : wrongFails x = (x : Int) + 1 := by unfold wrongFails; rw [if_neg (by omega)]
  have e2 : wrongTil x (tilL x) (nowL x) = tilL (x + 1) := by
    rw [wrongTil, e]
    by_cases h : 3 ≤ x + 1
    · rw [if_pos (by omega), tilL, if_pos h, nowL, waitL, if_pos h]; rfl
    · rw [if_neg (by omega), tilL, if_neg (by omega), tilL, if_neg h]
  rw [wrongC, e, e2]
set_option maxHeartbeats 8000000 in
set_option maxRecDepth 100000 in
theorem lawLocked (A : Option Addr) (n c : Nat) (bs : List UInt8) (w : World) (hr : Rd w w.heap.size 1 A n c (bs.flatMap encByte)) (hn : bs.length = n) (ht : tabOk w) :
    Calls Tryd.prog 7 #[.slice A n c] w fun e w' => e = .returned (.bool true) ∧ Below w.heap.size w w' := by
  have H := Hp.nil w
  have hnm : n ≤ maxLen := Nat.le_trans hr.2.1 hr.2.2.1
  by_cases hb : 1048576 < n
  · go_enter Tryd.func7, Tryd.ntmps7
    go_wp2_with (go_at_call 29; refine (big_any _ _ _ _ hnm).mono ?_; rintro e w' ⟨rfl, rfl⟩)
    go_ret
    exact ⟨rfl, Hp.b (by repeat (first | (with_reducible exact H) | (with_reducible apply Hp.alloc) | (with_reducible apply Hp.set) | (with_reducible apply Hp.drew) | (with_reducible apply Hp.drewN) | (with_reducible apply Hp.bytesW) | (with_reducible exact Upd.here) | (with_reducible exact Upd.hereR) | (with_reducible apply Upd.there) | (with_reducible apply Sz.alloc) | (with_reducible apply Sz.set) | (with_reducible apply Sz.drew) | (with_reducible apply Sz.drewN) | (with_reducible apply Sz.bytesW) | (with_reducible assumption) | (with_reducible exact Sz.base _)))⟩
  go_enter Tryd.func7, Tryd.ntmps7
  go_wp2_with (go_at_call 29; refine (big_any _ _ _ _ hnm).mono ?_; rintro e w' ⟨rfl, rfl⟩)
  refine (DrawDeviceOk_hp A n c bs _ hr hn).mono ?_
  rintro e w1 ⟨k, cc, f, u, rfl, hb1⟩
  replace H := Hp.step (by repeat (first | (with_reducible exact H) | (with_reducible apply Hp.alloc) | (with_reducible apply Hp.set) | (with_reducible apply Hp.drew) | (with_reducible apply Hp.drewN) | (with_reducible apply Hp.bytesW) | (with_reducible exact Upd.here) | (with_reducible exact Upd.hereR) | (with_reducible apply Upd.there) | (with_reducible apply Sz.alloc) | (with_reducible apply Sz.set) | (with_reducible apply Sz.drew) | (with_reducible apply Sz.drewN) | (with_reducible apply Sz.bytesW) | (with_reducible assumption) | (with_reducible exact Sz.base _))) hb1; (try simp only [List.set_cons_zero, List.set_cons_succ, List.cons_append, List.nil_append] at H); clear hb1
  have F := H.facts; simp only [Facts, NeF, box, row, reg, cellsF, ne_eq, true_and, and_true, Nat.reduceAdd, Nat.zero_add] at F
  cases hd : devOk k cc f u with
  | false =>
    go_wp2_with (go_at_call 31; refine (specDeviceOk_any _ _ _ _ _).mono ?_; rintro e w2 ⟨rfl, hb2⟩; replace H := Hp.step (by repeat (first | (with_reducible exact H) | (with_reducible apply Hp.alloc) | (with_reducible apply Hp.set) | (with_reducible apply Hp.drew) | (with_reducible apply Hp.drewN) | (with_reducible apply Hp.bytesW) | (with_reducible exact Upd.here) | (with_reducible exact Upd.hereR) | (with_reducible apply Upd.there) | (with_reducible apply Sz.alloc) | (with_reducible apply Sz.set) | (with_reducible apply Sz.drew) | (with_reducible apply Sz.drewN) | (with_reducible apply Sz.bytesW) | (with_reducible assumption) | (with_reducible exact Sz.base _))) hb2; (try simp only [List.set_cons_zero, List.set_cons_succ, List.cons_append, List.nil_append] at H); clear F; have F := H.facts; simp only [Facts, NeF, box, row, reg, cellsF, ne_eq, true_and, and_true, Nat.reduceAdd, Nat.zero_add] at F)
    go_ret
    exact ⟨rfl, Hp.b (by repeat (first | (with_reducible exact H) | (with_reducible apply Hp.alloc) | (with_reducible apply Hp.set) | (with_reducible apply Hp.drew) | (with_reducible apply Hp.drewN) | (with_reducible apply Hp.bytesW) | (with_reducible exact Upd.here) | (with_reducible exact Upd.hereR) | (with_reducible apply Upd.there) | (with_reducible apply Sz.alloc) | (with_reducible apply Sz.set) | (with_reducible apply Sz.drew) | (with_reducible apply Sz.drewN) | (with_reducible apply Sz.bytesW) | (with_reducible assumption) | (with_reducible exact Sz.base _)))⟩
  | true =>
  by_cases hc9 : 999999970 < cc
  · go_wp2_with (go_at_call 31; refine (specDeviceOk_any _ _ _ _ _).mono ?_; rintro e w2 ⟨rfl, hb2⟩; replace H := Hp.step (by repeat (first | (with_reducible exact H) | (with_reducible apply Hp.alloc) | (with_reducible apply Hp.set) | (with_reducible apply Hp.drew) | (with_reducible apply Hp.drewN) | (with_reducible apply Hp.bytesW) | (with_reducible exact Upd.here) | (with_reducible exact Upd.hereR) | (with_reducible apply Upd.there) | (with_reducible apply Sz.alloc) | (with_reducible apply Sz.set) | (with_reducible apply Sz.drew) | (with_reducible apply Sz.drewN) | (with_reducible apply Sz.bytesW) | (with_reducible assumption) | (with_reducible exact Sz.base _))) hb2; (try simp only [List.set_cons_zero, List.set_cons_succ, List.cons_append, List.nil_append] at H); clear F; have F := H.facts; simp only [Facts, NeF, box, row, reg, cellsF, ne_eq, true_and, and_true, Nat.reduceAdd, Nat.zero_add] at F)
    go_ret
    exact ⟨rfl, Hp.b (by repeat (first | (with_reducible exact H) | (with_reducible apply Hp.alloc) | (with_reducible apply Hp.set) | (with_reducible apply Hp.drew) | (with_reducible apply Hp.drewN) | (with_reducible apply Hp.bytesW) | (with_reducible exact Upd.here) | (with_reducible exact Upd.hereR) | (with_reducible apply Upd.there) | (with_reducible apply Sz.alloc) | (with_reducible apply Sz.set) | (with_reducible apply Sz.drew) | (with_reducible apply Sz.drewN) | (with_reducible apply Sz.bytesW) | (with_reducible assumption) | (with_reducible exact Sz.base _)))⟩
  obtain ⟨⟨hk0, hk1⟩, ⟨hc0, hc1⟩, hf, hu⟩ := devOk_iff.1 hd
  obtain ⟨kn, rfl⟩ := Int.eq_ofNat_of_zero_le hk0
  obtain ⟨cn, rfl⟩ := Int.eq_ofNat_of_zero_le hc0
  go_wp2_with (go_at_call 31; refine (specDeviceOk_any _ _ _ _ _).mono ?_; rintro e w2 ⟨rfl, hb2⟩; replace H := Hp.step (by repeat (first | (with_reducible exact H) | (with_reducible apply Hp.alloc) | (with_reducible apply Hp.set) | (with_reducible apply Hp.drew) | (with_reducible apply Hp.drewN) | (with_reducible apply Hp.bytesW) | (with_reducible exact Upd.here) | (with_reducible exact Upd.hereR) | (with_reducible apply Upd.there) | (with_reducible apply Sz.alloc) | (with_reducible apply Sz.set) | (with_reducible apply Sz.drew) | (with_reducible apply Sz.drewN) | (with_reducible apply Sz.bytesW) | (with_reducible assumption) | (with_reducible exact Sz.base _))) hb2; (try simp only [List.set_cons_zero, List.set_cons_succ, List.cons_append, List.nil_append] at H); clear F; have F := H.facts; simp only [Facts, NeF, box, row, reg, cellsF, ne_eq, true_and, and_true, Nat.reduceAdd, Nat.zero_add] at F)
  clear hd hu F
  generalize hD : w1.heap.size = D at *
  go_loopw [4, 5] (fun v i wr => ∃ x : Nat, x ≤ 18 ∧ i = .int .i64 ((x : Int) + 1) ∧ v = .int .i64 (nowL x) ∧ Hid (Hp w wr [box D 36 [.int .i64 kn, .int .i64 cn, .int .i64 x, .int .i64 (tilL x)]])) (fun _ i _ => 19 - (intOf i).toNat)
  case atStart => exact ⟨0, by omega, rfl, rfl, Lib.hid (Hp.give (by repeat (first | (with_reducible exact H) | (with_reducible apply Hp.alloc) | (with_reducible apply Hp.set) | (with_reducible apply Hp.drew) | (with_reducible apply Hp.drewN) | (with_reducible apply Hp.bytesW) | (with_reducible exact Upd.here) | (with_reducible exact Upd.hereR) | (with_reducible apply Upd.there) | (with_reducible apply Sz.alloc) | (with_reducible apply Sz.set) | (with_reducible apply Sz.drew) | (with_reducible apply Sz.drewN) | (with_reducible apply Sz.bytesW) | (with_reducible assumption) | (with_reducible exact Sz.base _))) [0] (by decide) (by rfl))⟩
  case round =>
    clear H
    obtain ⟨x, hx, rfl, rfl, HP⟩ := hrel
    have H := HP.out
    have F := H.facts; simp only [Facts, NeF, box, row, reg, cellsF, ne_eq, true_and, and_true, Nat.reduceAdd, Nat.zero_add] at F
    have hnb := nowL_bd x
    have htb := tilL_bd x
    by_cases hlt : x < 18
    · have hwb := waitL_bd (x + 1)
      have hN1 : nowL (x + 1) = nowL x + waitL (x + 1) := rfl
      have hT1 : tilL (x + 1) = if 3 ≤ x + 1 then nowL x + waitL (x + 1) else 0 := rfl
      have hcw := fun win hw => chk_wrong kn cn x (tilL x) win (nowL x) ⟨#[49, 50, 51, 52, 53]⟩ rfl (by omega) (by omega) (by omega) htb (by omega) hw
      have HC1 : Hid (∀ W win, 0 ≤ win ∧ win ≤ 20 → tabOk W → Calls Tryd.prog 28 #[.agg #[.int .i64 kn, .int .i64 cn, .int .i64 x, .int .i64 (tilL x)], .string ⟨#[49, 50, 51, 52, 53]⟩, .int .i64 win, .int .i64 (nowL x)] W fun e w' => e = .returned (.tuple #[.agg #[.int .i64 kn, .int .i64 cn, .int .i64 ((x : Int) + 1), .int .i64 (tilL (x + 1))], .int .i64 3]) ∧ Below W.heap.size W w') := fun W win hw h => (implCheckCode_any kn cn x (tilL x) win (nowL x) _ W h).mono fun e w' ⟨he, hb⟩ => ⟨by rw [he, hcw win hw, wrong_L kn cn x hlt]; rfl, hb⟩
      have HC2 : Hid (3 ≤ x + 1 → ∀ W, tabOk W → Calls Tryd.prog 28 #[.agg #[.int .i64 kn, .int .i64 cn, .int .i64 ((x : Int) + 1), .int .i64 (tilL (x + 1))], .string (codeT kn cn), .int .i64 0, .int .i64 (nowL x + waitL (x + 1) - 1)] W fun e w' => e = .returned (.tuple #[.agg #[.int .i64 kn, .int .i64 cn, .int .i64 ((x : Int) + 1), .int .i64 (tilL (x + 1))], .int .i64 2]) ∧ Below W.heap.size W w') := fun h3 W h => by
        have hw1 := waitOf_bd (f := ((x + 1 : Nat) : Int)) (by omega)
        have hw2 : waitL (x + 1) = waitOf ((x + 1 : Nat) : Int) := by rw [waitL, if_pos h3]
        rw [if_pos h3] at hT1
        refine (implCheckCode_any kn cn ((x : Int) + 1) (tilL (x + 1)) 0 (nowL x + waitL (x + 1) - 1) (codeT kn cn) W h).mono fun e w' ⟨he, hb⟩ => ⟨?_, hb⟩
        rw [he, chk_lock kn cn ((x : Int) + 1) (tilL (x + 1)) _ (codeT kn cn) (by omega) (by omega) (by omega) (by omega) (by omega)]
        rfl
      have hw3 : (¬ 3 ≤ (x : Int) + 1 ∧ waitL (x + 1) = 0) ∨ (3 ≤ (x : Int) + 1 ∧ (x : Int) + 1 < 15 ∧ waitL (x + 1) = 2 ^ (x - 2) ∧ (1 : Int) ≤ 2 ^ (x - 2) ∧ (2 : Int) ^ (x - 2) ≤ 2048) ∨ (3 ≤ (x : Int) + 1 ∧ ¬ (x : Int) + 1 < 15 ∧ waitL (x + 1) = 4096) := by
        unfold waitL
        by_cases h3 : 3 ≤ x + 1
        · rw [if_pos h3, waitOf]
          by_cases h4 : ((x + 1 : Nat) : Int) - 3 < 12
          · rw [if_pos h4]
            obtain ⟨p1, p2⟩ := pow_wait (f := ((x + 1 : Nat) : Int)) (by omega) h4
            rw [show (((x + 1 : Nat) : Int) - 3).toNat = x - 2 by omega] at p1 p2 ⊢
            exact .inr (.inl ⟨by omega, by omega, rfl, p1, p2⟩)
          · rw [if_neg h4]
            exact .inr (.inr ⟨by omega, by omega, rfl⟩)
        · rw [if_neg h3]
          exact .inl ⟨by omega, rfl⟩
      have hx19 : (x : Int) + 1 ≤ 18 := by omega
      have HX1 : Hid (codeF kn cn = codeT kn cn) := codeF_eq (by omega) (by omega)
      have HN1 := Lib.hid hN1
      have hT2 : (3 ≤ (x : Int) + 1 ∧ tilL (x + 1) = nowL x + waitL (x + 1)) ∨ ¬ 3 ≤ (x : Int) + 1 := by
        by_cases h3 : 3 ≤ x + 1
        · rw [if_pos h3] at hT1; exact .inl ⟨by omega, hT1⟩
        · exact .inr (by omega)
      clear hT1 hN1 hcw
      obtain ⟨tn, hTN⟩ : ∃ tn, tilL (x + 1) = tn := ⟨_, rfl⟩
      have HTN := Lib.hid hTN
      rw [hTN] at HC1 HC2 hT2
      clear hTN
      generalize waitL (x + 1) = wt at *
      generalize nowL x = nw at *
      generalize tilL x = til at *
      go_upto_region 12 with fail
      go_cut [6, 7] (fun s6 s7 wc => ∃ N : Nat, s6 = .pointer (some ⟨N, 0, none⟩) ∧ s7 = .int .i64 3 ∧ Hp w wc [box N 36 [.int .i64 kn, .int .i64 cn, .int .i64 ((x : Int) + 1), .int .i64 tn], box D 36 [.int .i64 kn, .int .i64 cn, .int .i64 x, .int .i64 til]])
      case first =>
        go_region_held3 (fun w' => w'.cell? ⟨D, 0, none⟩ = some (.int .i64 kn) ∧ w'.cell? ⟨D, 1, none⟩ = some (.int .i64 cn) ∧ w'.cell? ⟨D, 2, none⟩ = some (.int .i64 x) ∧ w'.cell? ⟨D, 3, none⟩ = some (.int .i64 til)) (go_keep) (first | (go_at_call 32; refine (at_any A n c 0 bs w _ (Hp.b (by repeat (first | (with_reducible exact H) | (with_reducible apply Hp.alloc) | (with_reducible apply Hp.set) | (with_reducible apply Hp.drew) | (with_reducible apply Hp.drewN) | (with_reducible apply Hp.bytesW) | (with_reducible exact Upd.here) | (with_reducible exact Upd.hereR) | (with_reducible apply Upd.there) | (with_reducible apply Sz.alloc) | (with_reducible apply Sz.set) | (with_reducible apply Sz.drew) | (with_reducible apply Sz.drewN) | (with_reducible apply Sz.bytesW) | (with_reducible assumption) | (with_reducible exact Sz.base _)))) hr hn (by omega) (by omega)).mono ?_; rintro e w' ⟨v0, rfl, hv0, rfl⟩; have hv1 := Int.tmod_nonneg 21 hv0.1; have hv2 := Int.tmod_lt_of_pos v0 (by omega : (0 : Int) < 21)) | (go_at_call 28; refine (HC1.out _ _ (by omega) (ht.on (Hp.b (by repeat (first | (with_reducible exact H) | (with_reducible apply Hp.alloc) | (with_reducible apply Hp.set) | (with_reducible apply Hp.drew) | (with_reducible apply Hp.drewN) | (with_reducible apply Hp.bytesW) | (with_reducible exact Upd.here) | (with_reducible exact Upd.hereR) | (with_reducible apply Upd.there) | (with_reducible apply Sz.alloc) | (with_reducible apply Sz.set) | (with_reducible apply Sz.drew) | (with_reducible apply Sz.drewN) | (with_reducible apply Sz.bytesW) | (with_reducible assumption) | (with_reducible exact Sz.base _)))))).mono ?_; rintro e w4 ⟨rfl, hb4⟩; replace H := Hp.step (by repeat (first | (with_reducible exact H) | (with_reducible apply Hp.alloc) | (with_reducible apply Hp.set) | (with_reducible apply Hp.drew) | (with_reducible apply Hp.drewN) | (with_reducible apply Hp.bytesW) | (with_reducible exact Upd.here) | (with_reducible exact Upd.hereR) | (with_reducible apply Upd.there) | (with_reducible apply Sz.alloc) | (with_reducible apply Sz.set) | (with_reducible apply Sz.drew) | (with_reducible apply Sz.drewN) | (with_reducible apply Sz.bytesW) | (with_reducible assumption) | (with_reducible exact Sz.base _))) hb4; (try simp only [List.set_cons_zero, List.set_cons_succ, List.cons_append, List.nil_append] at H); clear hb4; clear F; have F := H.facts; simp only [Facts, NeF, box, row, reg, cellsF, ne_eq, true_and, and_true, Nat.reduceAdd, Nat.zero_add] at F))
        all_goals
          go_wp2_with fail
          go_meet
          exact ⟨_, rfl, rfl, (by refine Hp.sel (by repeat (first | (with_reducible exact H) | (with_reducible apply Hp.alloc) | (with_reducible apply Hp.set) | (with_reducible apply Hp.drew) | (with_reducible apply Hp.drewN) | (with_reducible apply Hp.bytesW) | (with_reducible exact Upd.here) | (with_reducible exact Upd.hereR) | (with_reducible apply Upd.there) | (with_reducible apply Sz.alloc) | (with_reducible apply Sz.set) | (with_reducible apply Sz.drew) | (with_reducible apply Sz.drewN) | (with_reducible apply Sz.bytesW) | (with_reducible assumption) | (with_reducible exact Sz.base _))) ?_; (try simp only [List.set_cons_zero, List.set_cons_succ]); exact (by repeat (first | (with_reducible exact Sel.nil) | (with_reducible apply Sel.cons) | (with_reducible exact Del.here) | (with_reducible apply Del.there))))⟩
      case rest =>
      clear H F
      obtain ⟨N, rfl, rfl, H⟩ := hcut
      have F := H.facts; simp only [Facts, NeF, box, row, reg, cellsF, ne_eq, true_and, and_true, Nat.reduceAdd, Nat.zero_add] at F
      go_upto_if 41 with fail
      go_cut [8] (fun s8 wd => s8 = .int .i64 wt ∧ wd = wc)
      case first =>
        rcases hw3 with ⟨p1, rfl⟩ | ⟨p1, p2, rfl, p3, p4⟩ | ⟨p1, p2, rfl⟩
        all_goals
          go_wp2_with fail
          go_meet
          exact ⟨by first | rfl | (congr 1; unfold wrap64; omega), rfl⟩
      case rest =>
      obtain ⟨rfl, rfl⟩ := hcut
      have hw4 : (0 < wt ∧ tn = nw + wt ∧ 3 ≤ x + 1) ∨ wt = 0 := by
        rcases hw3 with ⟨p1, p2⟩ | ⟨p1, p2, p3, p4, p5⟩ | ⟨p1, p2, p3⟩
        · exact .inr p2
        · rcases hT2 with ⟨q1, q2⟩ | q1
          · exact .inl ⟨by omega, q2, by omega⟩
          · omega
        · rcases hT2 with ⟨q1, q2⟩ | q1
          · exact .inl ⟨by omega, q2, by omega⟩
          · omega
      clear hw3 hT2
      have b1 : (((x : Int) + 1) != ((x : Int) + 1)) = false := by simp
      rcases hw4 with ⟨h1, rfl, h3⟩ | rfl
      · have b2 : (nw + wt != nw + wt) = false := by simp
        have b3 : (nw + wt != wrap64 (nw + wt)) = false := by rw [show wrap64 (nw + wt) = nw + wt by unfold wrap64; omega]; simp
        have b4 : wrap64 (nw + wt) = nw + wt := by unfold wrap64; omega
        have b5 : IntKind.i64.wrap (nw + wt) = nw + wt := by rw [IntKind.wrap_i64]; omega
        have b6 : IntKind.i64.wrap (nw + wt - 1) = nw + wt - 1 := by rw [IntKind.wrap_i64]; omega
        have HC3 := Lib.hid (HC2.out h3)
        clear HC2
        have hW0 : w.heap.size ≤ D ∧ w.heap.size ≤ N := by omega
        go_upto_region 21 with fail
        go_cut [10] (fun s10 we => s10 = .int .i64 2 ∧ Hp w we [box N 36 [.int .i64 kn, .int .i64 cn, .int .i64 ((x : Int) + 1), .int .i64 (nw + wt)], box D 36 [.int .i64 kn, .int .i64 cn, .int .i64 x, .int .i64 til]])
        case first =>
          go_region_held3 (fun w' => w'.cell? ⟨D, 0, none⟩ = some (.int .i64 kn) ∧ w'.cell? ⟨D, 1, none⟩ = some (.int .i64 cn) ∧ w'.cell? ⟨N, 0, none⟩ = some (.int .i64 kn) ∧ w'.cell? ⟨N, 1, none⟩ = some (.int .i64 cn) ∧ w'.cell? ⟨N, 2, none⟩ = some (.int .i64 ((x : Int) + 1)) ∧ w'.cell? ⟨N, 3, none⟩ = some (.int .i64 (nw + wt))) (go_keep) (first | (go_at_call 33; refine (specCodeAt_any _ _ _).mono ?_; rintro e w5 ⟨rfl, hb5⟩; replace H := Hp.step (by repeat (first | (with_reducible exact H) | (with_reducible apply Hp.alloc) | (with_reducible apply Hp.set) | (with_reducible apply Hp.drew) | (with_reducible apply Hp.drewN) | (with_reducible apply Hp.bytesW) | (with_reducible exact Upd.here) | (with_reducible exact Upd.hereR) | (with_reducible apply Upd.there) | (with_reducible apply Sz.alloc) | (with_reducible apply Sz.set) | (with_reducible apply Sz.drew) | (with_reducible apply Sz.drewN) | (with_reducible apply Sz.bytesW) | (with_reducible assumption) | (with_reducible exact Sz.base _))) hb5; (try simp only [List.set_cons_zero, List.set_cons_succ, List.cons_append, List.nil_append] at H); clear hb5; clear F; have F := H.facts; simp only [Facts, NeF, box, row, reg, cellsF, ne_eq, true_and, and_true, Nat.reduceAdd, Nat.zero_add] at F; rw [HX1.out]) | (go_at_call 28; refine (HC3.out _ (ht.on (Hp.b (by repeat (first | (with_reducible exact H) | (with_reducible apply Hp.alloc) | (with_reducible apply Hp.set) | (with_reducible apply Hp.drew) | (with_reducible apply Hp.drewN) | (with_reducible apply Hp.bytesW) | (with_reducible exact Upd.here) | (with_reducible exact Upd.hereR) | (with_reducible apply Upd.there) | (with_reducible apply Sz.alloc) | (with_reducible apply Sz.set) | (with_reducible apply Sz.drew) | (with_reducible apply Sz.drewN) | (with_reducible apply Sz.bytesW) | (with_reducible assumption) | (with_reducible exact Sz.base _)))))).mono ?_; rintro e w6 ⟨rfl, hb6⟩; replace H := Hp.step (by repeat (first | (with_reducible exact H) | (with_reducible apply Hp.alloc) | (with_reducible apply Hp.set) | (with_reducible apply Hp.drew) | (with_reducible apply Hp.drewN) | (with_reducible apply Hp.bytesW) | (with_reducible exact Upd.here) | (with_reducible exact Upd.hereR) | (with_reducible apply Upd.there) | (with_reducible apply Sz.alloc) | (with_reducible apply Sz.set) | (with_reducible apply Sz.drew) | (with_reducible apply Sz.drewN) | (with_reducible apply Sz.bytesW) | (with_reducible assumption) | (with_reducible exact Sz.base _))) hb6; (try simp only [List.set_cons_zero, List.set_cons_succ, List.cons_append, List.nil_append] at H); clear hb6; clear F; have F := H.facts; simp only [Facts, NeF, box, row, reg, cellsF, ne_eq, true_and, and_true, Nat.reduceAdd, Nat.zero_add] at F))
          all_goals
            go_wp2_with fail
            go_meet
            exact ⟨rfl, (by refine Hp.sel (by repeat (first | (with_reducible exact H) | (with_reducible apply Hp.alloc) | (with_reducible apply Hp.set) | (with_reducible apply Hp.drew) | (with_reducible apply Hp.drewN) | (with_reducible apply Hp.bytesW) | (with_reducible exact Upd.here) | (with_reducible exact Upd.hereR) | (with_reducible apply Upd.there) | (with_reducible apply Sz.alloc) | (with_reducible apply Sz.set) | (with_reducible apply Sz.drew) | (with_reducible apply Sz.drewN) | (with_reducible apply Sz.bytesW) | (with_reducible assumption) | (with_reducible exact Sz.base _))) ?_; (try simp only [List.set_cons_zero, List.set_cons_succ]); exact (by repeat (first | (with_reducible exact Sel.nil) | (with_reducible apply Sel.cons) | (with_reducible exact Del.here) | (with_reducible apply Del.there))))⟩
        case rest =>
        clear H F
        obtain ⟨rfl, H⟩ := hcut
        have F := H.facts; simp only [Facts, NeF, box, row, reg, cellsF, ne_eq, true_and, and_true, Nat.reduceAdd, Nat.zero_add] at F
        go_wp2_with fail
        go_roundw
        case rel => exact ⟨x + 1, by omega, by go_num, by rw [HN1.out], Lib.hid (Hp.give (by repeat (first | (with_reducible exact H) | (with_reducible apply Hp.alloc) | (with_reducible apply Hp.set) | (with_reducible apply Hp.drew) | (with_reducible apply Hp.drewN) | (with_reducible apply Hp.bytesW) | (with_reducible exact Upd.here) | (with_reducible exact Upd.hereR) | (with_reducible apply Upd.there) | (with_reducible apply Sz.alloc) | (with_reducible apply Sz.set) | (with_reducible apply Sz.drew) | (with_reducible apply Sz.drewN) | (with_reducible apply Sz.bytesW) | (with_reducible assumption) | (with_reducible exact Sz.base _))) [1] (by decide) (by rw [HTN.out, show ((x + 1 : Nat) : Int) = (x : Int) + 1 by omega]; rfl))⟩
        case measure => simp [intOf]; omega
      · go_wp2_with fail
        go_roundw
        case rel => exact ⟨x + 1, by omega, by go_num, by rw [HN1.out]; simp, Lib.hid (Hp.give (by repeat (first | (with_reducible exact H) | (with_reducible apply Hp.alloc) | (with_reducible apply Hp.set) | (with_reducible apply Hp.drew) | (with_reducible apply Hp.drewN) | (with_reducible apply Hp.bytesW) | (with_reducible exact Upd.here) | (with_reducible exact Upd.hereR) | (with_reducible apply Upd.there) | (with_reducible apply Sz.alloc) | (with_reducible apply Sz.set) | (with_reducible apply Sz.drew) | (with_reducible apply Sz.drewN) | (with_reducible apply Sz.bytesW) | (with_reducible assumption) | (with_reducible exact Sz.base _))) [1] (by decide) (by rw [HTN.out, show ((x + 1 : Nat) : Int) = (x : Int) + 1 by omega]; rfl))⟩
        case measure => simp [intOf]; omega
    · have HX1 : Hid (codeF kn cn = codeT kn cn) := codeF_eq (by omega) (by omega)
      have hcf := chk_free kn cn x (tilL x) (nowL x) (by omega) (by omega) (by omega) htb (by omega)
      have HC1 : Hid (∀ W, tabOk W → Calls Tryd.prog 28 #[.agg #[.int .i64 kn, .int .i64 cn, .int .i64 x, .int .i64 (tilL x)], .string (codeT kn cn), .int .i64 0, .int .i64 (nowL x)] W fun e w' => e = .returned (.tuple #[.agg #[.int .i64 kn, .int .i64 ((cn : Int) + 1), .int .i64 0, .int .i64 0], .int .i64 0]) ∧ Below W.heap.size W w') := fun W h => (implCheckCode_any kn cn x (tilL x) 0 (nowL x) _ W h).mono fun e w' ⟨he, hb⟩ => ⟨by rw [he, hcf]; rfl, hb⟩
      have hle : ¬ (x : Int) + 1 ≤ 18 := by omega
      clear hcf
      generalize nowL x = nw at *
      generalize tilL x = til at *
      go_upto_region 26 with fail
      go_region_held3 (fun w' => w'.cell? ⟨D, 0, none⟩ = some (.int .i64 kn) ∧ w'.cell? ⟨D, 1, none⟩ = some (.int .i64 cn) ∧ w'.cell? ⟨D, 2, none⟩ = some (.int .i64 x) ∧ w'.cell? ⟨D, 3, none⟩ = some (.int .i64 til)) (go_keep) (first | (go_at_call 33; refine (specCodeAt_any _ _ _).mono ?_; rintro e w5 ⟨rfl, hb5⟩; replace H := Hp.step (by repeat (first | (with_reducible exact H) | (with_reducible apply Hp.alloc) | (with_reducible apply Hp.set) | (with_reducible apply Hp.drew) | (with_reducible apply Hp.drewN) | (with_reducible apply Hp.bytesW) | (with_reducible exact Upd.here) | (with_reducible exact Upd.hereR) | (with_reducible apply Upd.there) | (with_reducible apply Sz.alloc) | (with_reducible apply Sz.set) | (with_reducible apply Sz.drew) | (with_reducible apply Sz.drewN) | (with_reducible apply Sz.bytesW) | (with_reducible assumption) | (with_reducible exact Sz.base _))) hb5; (try simp only [List.set_cons_zero, List.set_cons_succ, List.cons_append, List.nil_append] at H); clear hb5; clear F; have F := H.facts; simp only [Facts, NeF, box, row, reg, cellsF, ne_eq, true_and, and_true, Nat.reduceAdd, Nat.zero_add] at F; rw [HX1.out]) | (go_at_call 28; refine (HC1.out _ (ht.on (Hp.b (by repeat (first | (with_reducible exact H) | (with_reducible apply Hp.alloc) | (with_reducible apply Hp.set) | (with_reducible apply Hp.drew) | (with_reducible apply Hp.drewN) | (with_reducible apply Hp.bytesW) | (with_reducible exact Upd.here) | (with_reducible exact Upd.hereR) | (with_reducible apply Upd.there) | (with_reducible apply Sz.alloc) | (with_reducible apply Sz.set) | (with_reducible apply Sz.drew) | (with_reducible apply Sz.drewN) | (with_reducible apply Sz.bytesW) | (with_reducible assumption) | (with_reducible exact Sz.base _)))))).mono ?_; rintro e w6 ⟨rfl, hb6⟩; replace H := Hp.step (by repeat (first | (with_reducible exact H) | (with_reducible apply Hp.alloc) | (with_reducible apply Hp.set) | (with_reducible apply Hp.drew) | (with_reducible apply Hp.drewN) | (with_reducible apply Hp.bytesW) | (with_reducible exact Upd.here) | (with_reducible exact Upd.hereR) | (with_reducible apply Upd.there) | (with_reducible apply Sz.alloc) | (with_reducible apply Sz.set) | (with_reducible apply Sz.drew) | (with_reducible apply Sz.drewN) | (with_reducible apply Sz.bytesW) | (with_reducible assumption) | (with_reducible exact Sz.base _))) hb6; (try simp only [List.set_cons_zero, List.set_cons_succ, List.cons_append, List.nil_append] at H); clear hb6; clear F; have F := H.facts; simp only [Facts, NeF, box, row, reg, cellsF, ne_eq, true_and, and_true, Nat.reduceAdd, Nat.zero_add] at F))
      all_goals
        go_wp2_with fail
        go_ret
        exact ⟨rfl, Hp.b (by repeat (first | (with_reducible exact H) | (with_reducible apply Hp.alloc) | (with_reducible apply Hp.set) | (with_reducible apply Hp.drew) | (with_reducible apply Hp.drewN) | (with_reducible apply Hp.bytesW) | (with_reducible exact Upd.here) | (with_reducible exact Upd.hereR) | (with_reducible apply Upd.there) | (with_reducible apply Sz.alloc) | (with_reducible apply Sz.set) | (with_reducible apply Sz.drew) | (with_reducible apply Sz.drewN) | (with_reducible apply Sz.bytesW) | (with_reducible assumption) | (with_reducible exact Sz.base _)))⟩
end Go.Proofs.YtonbebacioocnaaDoor

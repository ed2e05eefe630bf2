/- The walk of FnCodes. No condition. -/
import Derived.Test.YtonbebacioocnaaDoorDrawDev
import Derived.Test.YtonbebacioocnaaDoorCodes
import Derived.Test.YtonbebacioocnaaDoorChkI
import Derived.Deep.RegionWith
import Derived.Deep.RegionHeld3
import Derived.Deep.DrawnRows
import Derived.Deep.DeepCutAuto
namespace Go.Proofs.YtonbebacioocnaaDoor
open Go.RowKit
set_option linter.unusedVariables false
set_option linter.unusedSimpArgs false
attribute [local go_sem ↓] Go.wp_at_zero Go.wp_at_succ
theorem big_any (A : Option Addr) (n c : Nat) (w : World) (hm : n ≤ maxLen) :
    Calls Tryd.prog 29 #[.slice A n c] w fun e w' => e = .returned (.bool (decide (1048576 < n))) ∧ w = w' := by
  unfold maxLen at hm
  by_cases h : 1048576 < n
  · go_enter Tryd.func29, Tryd.ntmps29
    go_wp2
    go_ret
    exact ⟨by simp; omega, rfl⟩
  · go_enter Tryd.func29, Tryd.ntmps29
    go_wp2
    go_ret
    exact ⟨by simp; omega, rfl⟩
theorem chk_one (kn cy : Nat) (fy : Int) (s : ByteArray) (hk : kn ≤ 1099511627776) (hc : cy + 1 ≤ 1000000000) (hf : 0 ≤ fy ∧ fy ≤ 1000) :
    checkV kn cy fy 0 s 0 5 = if eqB (codeT kn cy) s = true then ⟨kn, cy + 1, 0, 0, 0⟩ else wrongC kn cy fy 0 5 := by
  have hd : devOk kn cy fy 0 = true := devOk_iff.2 (by omega)
  rw [checkV, if_pos ⟨hd, by decide, by decide⟩, chkIn, if_neg (by omega)]
  have e : (min ((cy : Int) + 0) 1000000000).toNat + 1 - (cy : Int).toNat = 1 := by omega
  rw [e]
  simp only [Int.toNat_natCast, findC]
  split
  · rename_i h
    show (⟨kn, leastI (cy + 1) 1000000000, 0, 0, 0⟩ : Chk) = _
    rw [leastI]
    split
    · rfl
    · congr 1; omega
  · rfl
theorem codes20 (kn cn : Nat) (hk : kn ≤ 1099511627776) (hc : cn ≤ 999999970) : (codesFrom kn cn 20).length = 20 ∧ ∀ x (h : x < 20), (codesFrom kn cn 20)[x]? = some (codeT kn (cn + x)) := by
  have e : codesFrom kn cn 20 = (List.range 20).map (fun i => codeT kn (cn + i)) := by
    rw [codesFrom, if_pos ⟨inR_true.2 (by omega), by decide, fun _ => by omega⟩]; rfl
  rw [e]
  refine ⟨by simp, fun x h => ?_⟩
  rw [List.getElem?_map, List.getElem?_range h]; rfl
set_option maxHeartbeats 8000000 in
set_option maxRecDepth 100000 in
theorem lawCodes (A : Option Addr) (n c : Nat) (bs : List UInt8) (w : World) (hr : Rd w w.heap.size 1 A n c (bs.flatMap encByte)) (hn : bs.length = n) (ht : tabOk w) :
    Calls Tryd.prog 8 #[.slice A n c] w fun e w' => e = .returned (.bool true) ∧ Below w.heap.size w w' := by
  have H := Hp.nil w
  have hnm : n ≤ maxLen := Nat.le_trans hr.2.1 hr.2.2.1
  by_cases hb : 1048576 < n
  · go_enter Tryd.func8, Tryd.ntmps8
    go_wp2_with (go_at_call 29; refine (big_any _ _ _ _ hnm).mono ?_; rintro e w' ⟨rfl, rfl⟩)
    go_ret
    exact ⟨rfl, Hp.b (by repeat (first | (with_reducible exact H) | (with_reducible apply Hp.alloc) | (with_reducible apply Hp.set) | (with_reducible apply Hp.drew) | (with_reducible apply Hp.drewN) | (with_reducible apply Hp.bytesW) | (with_reducible exact Upd.here) | (with_reducible exact Upd.hereR) | (with_reducible apply Upd.there) | (with_reducible apply Sz.alloc) | (with_reducible apply Sz.set) | (with_reducible apply Sz.drew) | (with_reducible apply Sz.drewN) | (with_reducible apply Sz.bytesW) | (with_reducible assumption) | (with_reducible exact Sz.base _)))⟩
  go_enter Tryd.func8, Tryd.ntmps8
  go_wp2_with (go_at_call 29; refine (big_any _ _ _ _ hnm).mono ?_; rintro e w' ⟨rfl, rfl⟩)
  refine (DrawDeviceOk_hp A n c bs _ hr hn).mono ?_
  rintro e w1 ⟨k, cc, f, u, rfl, hb1⟩
  replace H := Hp.step (by repeat (first | (with_reducible exact H) | (with_reducible apply Hp.alloc) | (with_reducible apply Hp.set) | (with_reducible apply Hp.drew) | (with_reducible apply Hp.drewN) | (with_reducible apply Hp.bytesW) | (with_reducible exact Upd.here) | (with_reducible exact Upd.hereR) | (with_reducible apply Upd.there) | (with_reducible apply Sz.alloc) | (with_reducible apply Sz.set) | (with_reducible apply Sz.drew) | (with_reducible apply Sz.drewN) | (with_reducible apply Sz.bytesW) | (with_reducible assumption) | (with_reducible exact Sz.base _))) hb1; (try simp only [List.set_cons_zero, List.set_cons_succ, List.cons_append, List.nil_append] at H); clear hb1
  have F := H.facts; simp only [Facts, NeF, box, row, reg, cellsF, ne_eq, true_and, and_true, Nat.reduceAdd, Nat.zero_add] at F
  cases hd : devOk k cc f u with
  | false =>
    go_wp2_with (go_at_call 31; refine (specDeviceOk_any _ _ _ _ _).mono ?_; rintro e w2 ⟨rfl, hb2⟩; replace H := Hp.step (by repeat (first | (with_reducible exact H) | (with_reducible apply Hp.alloc) | (with_reducible apply Hp.set) | (with_reducible apply Hp.drew) | (with_reducible apply Hp.drewN) | (with_reducible apply Hp.bytesW) | (with_reducible exact Upd.here) | (with_reducible exact Upd.hereR) | (with_reducible apply Upd.there) | (with_reducible apply Sz.alloc) | (with_reducible apply Sz.set) | (with_reducible apply Sz.drew) | (with_reducible apply Sz.drewN) | (with_reducible apply Sz.bytesW) | (with_reducible assumption) | (with_reducible exact Sz.base _))) hb2; (try simp only [List.set_cons_zero, List.set_cons_succ, List.cons_append, List.nil_append] at H); clear F; have F := H.facts; simp only [Facts, NeF, box, row, reg, cellsF, ne_eq, true_and, and_true, Nat.reduceAdd, Nat.zero_add] at F)
    go_ret
    exact ⟨rfl, Hp.b (by repeat (first | (with_reducible exact H) | (with_reducible apply Hp.alloc) | (with_reducible apply Hp.set) | (with_reducible apply Hp.drew) | (with_reducible apply Hp.drewN) | (with_reducible apply Hp.bytesW) | (with_reducible exact Upd.here) | (with_reducible exact Upd.hereR) | (with_reducible apply Upd.there) | (with_reducible apply Sz.alloc) | (with_reducible apply Sz.set) | (with_reducible apply Sz.drew) | (with_reducible apply Sz.drewN) | (with_reducible apply Sz.bytesW) | (with_reducible assumption) | (with_reducible exact Sz.base _)))⟩
  | true =>
  by_cases hc9 : 999999970 < cc
  · go_wp2_with (go_at_call 31; refine (specDeviceOk_any _ _ _ _ _).mono ?_; rintro e w2 ⟨rfl, hb2⟩; replace H := Hp.step (by repeat (first | (with_reducible exact H) | (with_reducible apply Hp.alloc) | (with_reducible apply Hp.set) | (with_reducible apply Hp.drew) | (with_reducible apply Hp.drewN) | (with_reducible apply Hp.bytesW) | (with_reducible exact Upd.here) | (with_reducible exact Upd.hereR) | (with_reducible apply Upd.there) | (with_reducible apply Sz.alloc) | (with_reducible apply Sz.set) | (with_reducible apply Sz.drew) | (with_reducible apply Sz.drewN) | (with_reducible apply Sz.bytesW) | (with_reducible assumption) | (with_reducible exact Sz.base _))) hb2; (try simp only [List.set_cons_zero, List.set_cons_succ, List.cons_append, List.nil_append] at H); clear F; have F := H.facts; simp only [Facts, NeF, box, row, reg, cellsF, ne_eq, true_and, and_true, Nat.reduceAdd, Nat.zero_add] at F)
    go_ret
    exact ⟨rfl, Hp.b (by repeat (first | (with_reducible exact H) | (with_reducible apply Hp.alloc) | (with_reducible apply Hp.set) | (with_reducible apply Hp.drew) | (with_reducible apply Hp.drewN) | (with_reducible apply Hp.bytesW) | (with_reducible exact Upd.here) | (with_reducible exact Upd.hereR) | (with_reducible apply Upd.there) | (with_reducible apply Sz.alloc) | (with_reducible apply Sz.set) | (with_reducible apply Sz.drew) | (with_reducible apply Sz.drewN) | (with_reducible apply Sz.bytesW) | (with_reducible assumption) | (with_reducible exact Sz.base _)))⟩
  obtain ⟨⟨hk0, hk1⟩, ⟨hc0, hc1⟩, hf, hu⟩ := devOk_iff.1 hd
  obtain ⟨kn, rfl⟩ := Int.eq_ofNat_of_zero_le hk0
  obtain ⟨cn, rfl⟩ := Int.eq_ofNat_of_zero_le hc0
  go_wp2_with (go_at_call 31; refine (specDeviceOk_any _ _ _ _ _).mono ?_; rintro e w2 ⟨rfl, hb2⟩; replace H := Hp.step (by repeat (first | (with_reducible exact H) | (with_reducible apply Hp.alloc) | (with_reducible apply Hp.set) | (with_reducible apply Hp.drew) | (with_reducible apply Hp.drewN) | (with_reducible apply Hp.bytesW) | (with_reducible exact Upd.here) | (with_reducible exact Upd.hereR) | (with_reducible apply Upd.there) | (with_reducible apply Sz.alloc) | (with_reducible apply Sz.set) | (with_reducible apply Sz.drew) | (with_reducible apply Sz.drewN) | (with_reducible apply Sz.bytesW) | (with_reducible assumption) | (with_reducible exact Sz.base _))) hb2; (try simp only [List.set_cons_zero, List.set_cons_succ, List.cons_append, List.nil_append] at H); clear F; have F := H.facts; simp only [Facts, NeF, box, row, reg, cellsF, ne_eq, true_and, and_true, Nat.reduceAdd, Nat.zero_add] at F)
  refine (implCodesFrom_any kn cn 20 _ (ht.on (Hp.b (by repeat (first | (with_reducible exact H) | (with_reducible apply Hp.alloc) | (with_reducible apply Hp.set) | (with_reducible apply Hp.drew) | (with_reducible apply Hp.drewN) | (with_reducible apply Hp.bytesW) | (with_reducible exact Upd.here) | (with_reducible exact Upd.hereR) | (with_reducible apply Upd.there) | (with_reducible apply Sz.alloc) | (with_reducible apply Sz.set) | (with_reducible apply Sz.drew) | (with_reducible apply Sz.drewN) | (with_reducible apply Sz.bytesW) | (with_reducible assumption) | (with_reducible exact Sz.base _)))))).mono ?_
  rintro e w3 ⟨A', c', rfl, h3⟩
  replace H := Hp.call (by repeat (first | (with_reducible exact H) | (with_reducible apply Hp.alloc) | (with_reducible apply Hp.set) | (with_reducible apply Hp.drew) | (with_reducible apply Hp.drewN) | (with_reducible apply Hp.bytesW) | (with_reducible exact Upd.here) | (with_reducible exact Upd.hereR) | (with_reducible apply Upd.there) | (with_reducible apply Sz.alloc) | (with_reducible apply Sz.set) | (with_reducible apply Sz.drew) | (with_reducible apply Sz.drewN) | (with_reducible apply Sz.bytesW) | (with_reducible assumption) | (with_reducible exact Sz.base _))) h3; (try simp only [List.set_cons_zero, List.set_cons_succ, List.cons_append, List.nil_append] at H); clear h3
  obtain ⟨hlen, hget⟩ := codes20 kn cn (by omega) (by omega)
  unfold rStr at H
  generalize codesFrom (kn : Int) (cn : Int) 20 = Ls at *
  rw [hlen] at H ⊢
  have HG := Lib.hid hget
  have HLEN := Lib.hid hlen
  clear hget hlen F hd hu
  obtain ⟨g, rfl⟩ : ∃ g, A' = some ⟨g, 0, none⟩ := by
    rcases (H.rowAt 0 rfl).2 with ⟨e1, e2⟩ | ⟨g, cap, cur, e1, _⟩
    · omega
    · injection e1 with e1 _ _; exact ⟨g, e1⟩
  have HC0 : Hid (∀ (x : Nat) (W : World) (L : List Ent), x < 20 → Hp w W L → row 9 1 (.slice (some ⟨g, 0, none⟩) 20 c') 20 (Ls.flatMap encStr) ∈ L → W.cell? ⟨g, x, none⟩ = some (.string (codeT kn (cn + x)))) := by
    intro x W L hx HW hm
    obtain ⟨i, hi, he⟩ := List.getElem_of_mem hm
    have h1 := flat_get encStr 1 encStr_len Ls x 0 (by omega)
    rw [Nat.mul_one, Nat.add_zero, HG.out x hx] at h1
    have h2 := (HW.rowAt i (by rw [List.getElem?_eq_getElem hi, he])).cells (g := g) rfl x (.string (codeT kn (cn + x))) (by rw [h1]; rfl)
    rwa [Addr.add_lit, Nat.zero_add] at h2
  generalize hD : w1.heap.size = D at *
  go_wp2_with fail
  go_loopw [5] (fun i wr => ∃ x : Nat, x ≤ 20 ∧ i = .int .i64 x ∧ ∃ fx : Int, (0 ≤ fx ∧ fx ≤ 1000) ∧ Hid (Hp w wr [box D 36 [.int .i64 kn, .int .i64 ((cn + x : Nat) : Int), .int .i64 fx, .int .i64 0], row 9 1 (.slice (some ⟨g, 0, none⟩) 20 c') 20 (Ls.flatMap encStr)])) (fun i _ => 20 - (intOf i).toNat)
  case atStart => exact ⟨0, by omega, rfl, f, hf, Lib.hid (Hp.give (by repeat (first | (with_reducible exact H) | (with_reducible apply Hp.alloc) | (with_reducible apply Hp.set) | (with_reducible apply Hp.drew) | (with_reducible apply Hp.drewN) | (with_reducible apply Hp.bytesW) | (with_reducible exact Upd.here) | (with_reducible exact Upd.hereR) | (with_reducible apply Upd.there) | (with_reducible apply Sz.alloc) | (with_reducible apply Sz.set) | (with_reducible apply Sz.drew) | (with_reducible apply Sz.drewN) | (with_reducible apply Sz.bytesW) | (with_reducible assumption) | (with_reducible exact Sz.base _))) [1, 0] (by decide) (by simp))⟩
  case round =>
    clear H
    obtain ⟨x, hx, rfl, fx, hfx, HP⟩ := hrel
    have H := HP.out
    have F := H.facts; simp only [Facts, NeF, box, row, reg, cellsF, ne_eq, true_and, and_true, Nat.reduceAdd, Nat.zero_add] at F
    by_cases hlt : x < 20
    · generalize hcx : cn + x = cx at *
      have hc0 : ∀ (W : World) (L : List Ent), Hp w W L → row 9 1 (.slice (some ⟨g, 0, none⟩) 20 c') 20 (Ls.flatMap encStr) ∈ L → W.cell? ⟨g, x, none⟩ = some (.string (codeT kn cx)) := fun W L h1 h2 => by rw [← hcx]; exact HC0.out x W L hlt h1 h2
      have hx1 : (x : Int) < 20 := by omega
      have hx0 : (0 : Int) ≤ (x : Int) := by omega
      have b1 : IntKind.i64.wrap ((cx : Int) + 1) = (cx : Int) + 1 := by rw [IntKind.wrap_i64]; omega
      have b2 : (((cx : Int) + 1) != IntKind.i64.wrap ((cx : Int) + 1)) = false := by rw [b1]; simp
      have b3 : (((cx : Int) + 1) != ((cx : Int) + 1)) = false := by simp
      have hc6 : cx + 2 ≤ 1000000000 := by omega
      have HX1 : Hid (codeF kn cx = codeT kn cx) := codeF_eq (by omega) (by omega)
      have HX2 : Hid (codeF kn ((cx : Int) + 1) = codeT kn (cx + 1)) := codeF_eq (by omega) (by omega)
      have hv1 := chk_one kn cx fx (codeT kn cx) (by omega) (by omega) hfx
      have hv2 := chk_one kn (cx + 1) 0 (codeT kn cx) (by omega) (by omega) (by omega)
      rw [if_pos (eqB_iff.2 rfl)] at hv1
      have HC1 : Hid (∀ W, tabOk W → Calls Tryd.prog 28 #[.agg #[.int .i64 kn, .int .i64 cx, .int .i64 fx, .int .i64 0], .string (codeT kn cx), .int .i64 0, .int .i64 5] W fun e w' => e = .returned (.tuple #[.agg #[.int .i64 kn, .int .i64 ((cx : Int) + 1), .int .i64 0, .int .i64 0], .int .i64 0]) ∧ Below W.heap.size W w') := fun W h => (implCheckCode_any kn cx fx 0 0 5 (codeT kn cx) W h).mono fun e w' ⟨he, hb⟩ => ⟨by rw [he, hv1]; rfl, hb⟩
      have HC2 : Hid (∀ W, tabOk W → Calls Tryd.prog 28 #[.agg #[.int .i64 kn, .int .i64 ((cx : Int) + 1), .int .i64 0, .int .i64 0], .string (codeT kn cx), .int .i64 0, .int .i64 5] W fun e w' => e = .returned (checkV kn ((cx + 1 : Nat) : Int) 0 0 (codeT kn cx) 0 5).val ∧ Below W.heap.size W w') := fun W h => (implCheckCode_any kn ((cx + 1 : Nat) : Int) 0 0 0 5 (codeT kn cx) W h).mono fun e w' ⟨he, hb⟩ => ⟨he, hb⟩
      generalize checkV kn ((cx + 1 : Nat) : Int) 0 0 (codeT kn cx) 0 5 = q at *
      have hq : (eqB (codeT kn (cx + 1)) (codeT kn cx) = true ∧ q.what = 0) ∨ (eqB (codeT kn (cx + 1)) (codeT kn cx) = false ∧ q.what = 3) := by
        cases he : eqB (codeT kn (cx + 1)) (codeT kn cx) with
        | true => rw [if_pos he] at hv2; exact .inl ⟨rfl, by rw [hv2]⟩
        | false => rw [if_neg (by rw [he]; simp)] at hv2; exact .inr ⟨rfl, by rw [hv2]; rfl⟩
      obtain ⟨q1, q2, q3, q4, q5⟩ := q
      simp only [Chk.val] at HC2
      clear hv1 hv2
      have HC0' := Lib.hid hc0
      clear hc0
      generalize codeT kn (cx + 1) = s2 at *
      generalize codeT kn cx = s1 at *
      unfold eqB at hq
      dsimp only at hq
      have hgl := ((H.ok _ (List.mem_cons_of_mem _ List.mem_cons_self)).lt g rfl).2
      have hgE : ¬ g = wr.heap.size ∧ ¬ wr.heap.size = g := by omega
      have c9 := HC0'.out _ _ H (by repeat (first | (with_reducible exact List.mem_cons_self) | (with_reducible apply List.mem_cons_of_mem)))
      have hDg : ¬ g = D ∧ ¬ D = g := by
        have := H.ap
        rw [List.pairwise_cons] at this
        have h := this.1 _ (List.mem_singleton_self _) D rfl
        have h2 : ¬ (some g = some D) := h
        simp at h2
        exact ⟨h2, fun e => h2 e.symm⟩
      go_upto_region 13 with fail
      go_cut [6, 7] (fun s6 s7 wc => ∃ N : Nat, s6 = .pointer (some ⟨N, 0, none⟩) ∧ s7 = .int .i64 0 ∧ Hp w wc [box N 36 [.int .i64 kn, .int .i64 ((cx : Int) + 1), .int .i64 0, .int .i64 0], box D 36 [.int .i64 kn, .int .i64 cx, .int .i64 fx, .int .i64 0], row 9 1 (.slice (some ⟨g, 0, none⟩) 20 c') 20 (Ls.flatMap encStr)])
      case first =>
        go_region_held3 (fun w' => w'.cell? ⟨D, 0, none⟩ = some (.int .i64 kn) ∧ w'.cell? ⟨D, 1, none⟩ = some (.int .i64 cx) ∧ w'.cell? ⟨D, 2, none⟩ = some (.int .i64 fx) ∧ w'.cell? ⟨D, 3, none⟩ = some (.int .i64 0) ∧ w'.cell? ⟨g, x, none⟩ = some (.string s1)) (go_keep) (first | (go_at_call 28; refine (HC1.out _ (ht.on (Hp.b (by repeat (first | (with_reducible exact H) | (with_reducible apply Hp.alloc) | (with_reducible apply Hp.set) | (with_reducible apply Hp.drew) | (with_reducible apply Hp.drewN) | (with_reducible apply Hp.bytesW) | (with_reducible exact Upd.here) | (with_reducible exact Upd.hereR) | (with_reducible apply Upd.there) | (with_reducible apply Sz.alloc) | (with_reducible apply Sz.set) | (with_reducible apply Sz.drew) | (with_reducible apply Sz.drewN) | (with_reducible apply Sz.bytesW) | (with_reducible assumption) | (with_reducible exact Sz.base _)))))).mono ?_; rintro e w4 ⟨rfl, hb4⟩; replace H := Hp.step (by repeat (first | (with_reducible exact H) | (with_reducible apply Hp.alloc) | (with_reducible apply Hp.set) | (with_reducible apply Hp.drew) | (with_reducible apply Hp.drewN) | (with_reducible apply Hp.bytesW) | (with_reducible exact Upd.here) | (with_reducible exact Upd.hereR) | (with_reducible apply Upd.there) | (with_reducible apply Sz.alloc) | (with_reducible apply Sz.set) | (with_reducible apply Sz.drew) | (with_reducible apply Sz.drewN) | (with_reducible apply Sz.bytesW) | (with_reducible assumption) | (with_reducible exact Sz.base _))) hb4; (try simp only [List.set_cons_zero, List.set_cons_succ, List.cons_append, List.nil_append] at H); clear hb4; clear F c9; have F := H.facts; simp only [Facts, NeF, box, row, reg, cellsF, ne_eq, true_and, and_true, Nat.reduceAdd, Nat.zero_add] at F; have c9 := HC0'.out _ _ H (by repeat (first | (with_reducible exact List.mem_cons_self) | (with_reducible apply List.mem_cons_of_mem)))))
        all_goals
          go_wp2_with fail
          go_meet
          exact ⟨_, rfl, rfl, (by refine Hp.sel (by repeat (first | (with_reducible exact H) | (with_reducible apply Hp.alloc) | (with_reducible apply Hp.set) | (with_reducible apply Hp.drew) | (with_reducible apply Hp.drewN) | (with_reducible apply Hp.bytesW) | (with_reducible exact Upd.here) | (with_reducible exact Upd.hereR) | (with_reducible apply Upd.there) | (with_reducible apply Sz.alloc) | (with_reducible apply Sz.set) | (with_reducible apply Sz.drew) | (with_reducible apply Sz.drewN) | (with_reducible apply Sz.bytesW) | (with_reducible assumption) | (with_reducible exact Sz.base _))) ?_; (try simp only [List.set_cons_zero, List.set_cons_succ]); exact (by repeat (first | (with_reducible exact Sel.nil) | (with_reducible apply Sel.cons) | (with_reducible exact Del.here) | (with_reducible apply Del.there))))⟩
      case rest =>
      clear H F c9 hgE hgl
      obtain ⟨N, rfl, rfl, H⟩ := hcut
      have F := H.facts; simp only [Facts, NeF, box, row, reg, cellsF, ne_eq, true_and, and_true, Nat.reduceAdd, Nat.zero_add] at F
      have c9 := HC0'.out _ _ H (by repeat (first | (with_reducible exact List.mem_cons_self) | (with_reducible apply List.mem_cons_of_mem)))
      have hgl := ((H.ok _ (List.mem_cons_of_mem _ (List.mem_cons_of_mem _ List.mem_cons_self))).lt g rfl).2
      have hgE : ¬ g = wc.heap.size ∧ ¬ wc.heap.size = g := by omega
      go_wp2_with fail
      go_region_held3 (fun w' => w'.cell? ⟨N, 0, none⟩ = some (.int .i64 kn) ∧ w'.cell? ⟨N, 1, none⟩ = some (.int .i64 ((cx : Int) + 1)) ∧ w'.cell? ⟨N, 2, none⟩ = some (.int .i64 0) ∧ w'.cell? ⟨N, 3, none⟩ = some (.int .i64 0) ∧ w'.cell? ⟨D, 0, none⟩ = some (.int .i64 kn) ∧ w'.cell? ⟨D, 1, none⟩ = some (.int .i64 cx) ∧ w'.cell? ⟨D, 2, none⟩ = some (.int .i64 fx) ∧ w'.cell? ⟨D, 3, none⟩ = some (.int .i64 0) ∧ w'.cell? ⟨g, x, none⟩ = some (.string s1)) (go_keep) (first | (go_at_call 33; refine (specCodeAt_any _ _ _).mono ?_; rintro e w5 ⟨rfl, hb5⟩; replace H := Hp.step (by repeat (first | (with_reducible exact H) | (with_reducible apply Hp.alloc) | (with_reducible apply Hp.set) | (with_reducible apply Hp.drew) | (with_reducible apply Hp.drewN) | (with_reducible apply Hp.bytesW) | (with_reducible exact Upd.here) | (with_reducible exact Upd.hereR) | (with_reducible apply Upd.there) | (with_reducible apply Sz.alloc) | (with_reducible apply Sz.set) | (with_reducible apply Sz.drew) | (with_reducible apply Sz.drewN) | (with_reducible apply Sz.bytesW) | (with_reducible assumption) | (with_reducible exact Sz.base _))) hb5; (try simp only [List.set_cons_zero, List.set_cons_succ, List.cons_append, List.nil_append] at H); clear hb5; clear F c9; have F := H.facts; simp only [Facts, NeF, box, row, reg, cellsF, ne_eq, true_and, and_true, Nat.reduceAdd, Nat.zero_add] at F; have c9 := HC0'.out _ _ H (by repeat (first | (with_reducible exact List.mem_cons_self) | (with_reducible apply List.mem_cons_of_mem))); rw [HX1.out]))
      go_upto_region 16 with fail
      have hgl := ((H.ok _ (List.mem_cons_of_mem _ (List.mem_cons_of_mem _ List.mem_cons_self))).lt g rfl).2
      have hNl := ((H.ok _ List.mem_cons_self).lt N rfl).2
      have hgE : ¬ g = w5.heap.size ∧ ¬ w5.heap.size = g := by omega
      have hNE : ¬ N = w5.heap.size ∧ ¬ w5.heap.size = N := by omega
      go_cut [9] (fun s9 wd => s9 = .int .i64 q5 ∧ Hp w wd [box N 36 [.int .i64 kn, .int .i64 ((cx : Int) + 1), .int .i64 0, .int .i64 0], box D 36 [.int .i64 kn, .int .i64 cx, .int .i64 fx, .int .i64 0], row 9 1 (.slice (some ⟨g, 0, none⟩) 20 c') 20 (Ls.flatMap encStr)])
      case first =>
        go_region_held3 (fun w' => w'.cell? ⟨N, 0, none⟩ = some (.int .i64 kn) ∧ w'.cell? ⟨N, 1, none⟩ = some (.int .i64 ((cx : Int) + 1)) ∧ w'.cell? ⟨N, 2, none⟩ = some (.int .i64 0) ∧ w'.cell? ⟨N, 3, none⟩ = some (.int .i64 0) ∧ w'.cell? ⟨g, x, none⟩ = some (.string s1)) (go_keep) (first | (go_at_call 28; refine (HC2.out _ (ht.on (Hp.b (by repeat (first | (with_reducible exact H) | (with_reducible apply Hp.alloc) | (with_reducible apply Hp.set) | (with_reducible apply Hp.drew) | (with_reducible apply Hp.drewN) | (with_reducible apply Hp.bytesW) | (with_reducible exact Upd.here) | (with_reducible exact Upd.hereR) | (with_reducible apply Upd.there) | (with_reducible apply Sz.alloc) | (with_reducible apply Sz.set) | (with_reducible apply Sz.drew) | (with_reducible apply Sz.drewN) | (with_reducible apply Sz.bytesW) | (with_reducible assumption) | (with_reducible exact Sz.base _)))))).mono ?_; rintro e w6 ⟨rfl, hb4⟩; replace H := Hp.step (by repeat (first | (with_reducible exact H) | (with_reducible apply Hp.alloc) | (with_reducible apply Hp.set) | (with_reducible apply Hp.drew) | (with_reducible apply Hp.drewN) | (with_reducible apply Hp.bytesW) | (with_reducible exact Upd.here) | (with_reducible exact Upd.hereR) | (with_reducible apply Upd.there) | (with_reducible apply Sz.alloc) | (with_reducible apply Sz.set) | (with_reducible apply Sz.drew) | (with_reducible apply Sz.drewN) | (with_reducible apply Sz.bytesW) | (with_reducible assumption) | (with_reducible exact Sz.base _))) hb4; (try simp only [List.set_cons_zero, List.set_cons_succ, List.cons_append, List.nil_append] at H); clear hb4; clear F c9; have F := H.facts; simp only [Facts, NeF, box, row, reg, cellsF, ne_eq, true_and, and_true, Nat.reduceAdd, Nat.zero_add] at F; have c9 := HC0'.out _ _ H (by repeat (first | (with_reducible exact List.mem_cons_self) | (with_reducible apply List.mem_cons_of_mem)))))
        all_goals
          go_wp2_with fail
          go_meet
          exact ⟨rfl, (by refine Hp.sel (by repeat (first | (with_reducible exact H) | (with_reducible apply Hp.alloc) | (with_reducible apply Hp.set) | (with_reducible apply Hp.drew) | (with_reducible apply Hp.drewN) | (with_reducible apply Hp.bytesW) | (with_reducible exact Upd.here) | (with_reducible exact Upd.hereR) | (with_reducible apply Upd.there) | (with_reducible apply Sz.alloc) | (with_reducible apply Sz.set) | (with_reducible apply Sz.drew) | (with_reducible apply Sz.drewN) | (with_reducible apply Sz.bytesW) | (with_reducible assumption) | (with_reducible exact Sz.base _))) ?_; (try simp only [List.set_cons_zero, List.set_cons_succ]); exact (by repeat (first | (with_reducible exact Sel.nil) | (with_reducible apply Sel.cons) | (with_reducible exact Del.here) | (with_reducible apply Del.there))))⟩
      case rest =>
      clear H F c9 hgE hgl hNE hNl
      obtain ⟨rfl, H⟩ := hcut
      have F := H.facts; simp only [Facts, NeF, box, row, reg, cellsF, ne_eq, true_and, and_true, Nat.reduceAdd, Nat.zero_add] at F
      have c9 := HC0'.out _ _ H (by repeat (first | (with_reducible exact List.mem_cons_self) | (with_reducible apply List.mem_cons_of_mem)))
      rcases hq with ⟨he, rfl⟩ | ⟨he, rfl⟩
      all_goals
        go_wp2_with fail
        go_region_held3 (fun w' => w'.cell? ⟨D, 0, none⟩ = some (.int .i64 kn) ∧ w'.cell? ⟨D, 1, none⟩ = some (.int .i64 cx) ∧ w'.cell? ⟨g, x, none⟩ = some (.string s1)) (go_keep) (first | (go_at_call 33; refine (specCodeAt_any _ _ _).mono ?_; rintro e w7 ⟨rfl, hb5⟩; replace H := Hp.step (by repeat (first | (with_reducible exact H) | (with_reducible apply Hp.alloc) | (with_reducible apply Hp.set) | (with_reducible apply Hp.drew) | (with_reducible apply Hp.drewN) | (with_reducible apply Hp.bytesW) | (with_reducible exact Upd.here) | (with_reducible exact Upd.hereR) | (with_reducible apply Upd.there) | (with_reducible apply Sz.alloc) | (with_reducible apply Sz.set) | (with_reducible apply Sz.drew) | (with_reducible apply Sz.drewN) | (with_reducible apply Sz.bytesW) | (with_reducible assumption) | (with_reducible exact Sz.base _))) hb5; (try simp only [List.set_cons_zero, List.set_cons_succ, List.cons_append, List.nil_append] at H); clear hb5; clear F c9; have F := H.facts; simp only [Facts, NeF, box, row, reg, cellsF, ne_eq, true_and, and_true, Nat.reduceAdd, Nat.zero_add] at F; have c9 := HC0'.out _ _ H (by repeat (first | (with_reducible exact List.mem_cons_self) | (with_reducible apply List.mem_cons_of_mem))); rw [HX2.out]))
        all_goals
          go_wp2_with fail
          go_roundw
          case rel => exact ⟨x + 1, by omega, by go_num, 0, by omega, Lib.hid (Hp.give (by repeat (first | (with_reducible exact H) | (with_reducible apply Hp.alloc) | (with_reducible apply Hp.set) | (with_reducible apply Hp.drew) | (with_reducible apply Hp.drewN) | (with_reducible apply Hp.bytesW) | (with_reducible exact Upd.here) | (with_reducible exact Upd.hereR) | (with_reducible apply Upd.there) | (with_reducible apply Sz.alloc) | (with_reducible apply Sz.set) | (with_reducible apply Sz.drew) | (with_reducible apply Sz.drewN) | (with_reducible apply Sz.bytesW) | (with_reducible assumption) | (with_reducible exact Sz.base _))) [1, 2] (by decide) (by rw [show ((cn + (x + 1) : Nat) : Int) = (cx : Int) + 1 by omega]; rfl))⟩
          case measure => simp [intOf]; omega
    · obtain rfl : x = 20 := by omega
      go_wp2_with fail
      go_ret
      exact ⟨rfl, Hp.b (by repeat (first | (with_reducible exact H) | (with_reducible apply Hp.alloc) | (with_reducible apply Hp.set) | (with_reducible apply Hp.drew) | (with_reducible apply Hp.drewN) | (with_reducible apply Hp.bytesW) | (with_reducible exact Upd.here) | (with_reducible exact Upd.hereR) | (with_reducible apply Upd.there) | (with_reducible apply Sz.alloc) | (with_reducible apply Sz.set) | (with_reducible apply Sz.drew) | (with_reducible apply Sz.drewN) | (with_reducible apply Sz.bytesW) | (with_reducible assumption) | (with_reducible exact Sz.base _)))⟩
end Go.Proofs.YtonbebacioocnaaDoor

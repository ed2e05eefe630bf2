/- Racks: which are valid (the reference's and the program's). No condition. -/
import Derived.Test.YtiooaephjjkgdaaDoorElWrap
import Derived.Test.YtiooaephjjkgdaaDoorPathI
import Derived.Deep.RegionHeld3
namespace Go.Proofs.YtiooaephjjkgdaaDoor
open Go.RowKit
set_option linter.unusedVariables false
set_option linter.unusedSimpArgs false
def wrapStep (next : Int) (us : List Wrap) (i : Nat) : Bool := match us[i]? with
  | some u => inR u.id 1 (next - 1) && (inR u.ends 1 1000000000 && (pathF u.kind && (decide (i = 0) || decide (((us[i - 1]?.map (·.id)).getD 0) < u.id))))
  | none => false
def rackRise (next : Int) (us : List Wrap) (n : Nat) : Bool := (List.range n).all (wrapStep next us)
def rackOk (key next : Int) (us : List Wrap) : Bool := inR key 0 1099511627776 && (inR next 1 1000000000 && (decide (us.length ≤ 60) && rackRise next us us.length))
theorem rackRise_snoc {next : Int} {us : List Wrap} {k : Nat} (h : rackRise next us k = true) (hs : wrapStep next us k = true) : rackRise next us (k + 1) = true := by
  simp [rackRise, List.range_succ, List.all_append] at h ⊢; exact ⟨h, hs⟩
theorem rackRise_no {next : Int} {us : List Wrap} {k n : Nat} (hk : k < n) (hs : wrapStep next us k = false) : rackRise next us n = false := by
  rw [rackRise, List.all_eq_false]; exact ⟨k, by simpa using hk, by simp [hs]⟩
theorem Rd.wrapAt {w : World} {A : Option Addr} {n c : Nat} {us : List Wrap} (hr : Rd w w.heap.size 6 A n c (us.flatMap encWrap)) (hn : us.length = n) {k : Nat} (hk : k < us.length) {b off : Nat} (hA : A = some ⟨b, off, none⟩) (W : World) (hb : Below w.heap.size w W) :
    W.cell? ⟨b, off + k * 6, none⟩ = some (.int .i64 us[k].id) ∧ W.cell? ⟨b, off + k * 6 + 1, none⟩ = some (.int .i64 us[k].ends) ∧ W.cell? ⟨b, off + k * 6 + 2, none⟩ = some (.string us[k].kind) ∧ W.cell? ⟨b, off + k * 6 + 3, none⟩ = some (.int .i64 us[k].nonce) ∧ W.cell? ⟨b, off + k * 6 + 4, none⟩ = some (.slice us[k].da us[k].data.length us[k].dc) ∧ W.cell? ⟨b, off + k * 6 + 5, none⟩ = some (.int .i64 us[k].tag) := by
  obtain ⟨b', off', hA', hb', hcell⟩ := hr.elem encWrap_len hn (i := k) (by omega)
  obtain ⟨rfl, rfl⟩ : b = b' ∧ off = off' := by rw [hA] at hA'; simpa using hA'
  refine ⟨?_, ?_, ?_, ?_, ?_, ?_⟩
  · exact (hb.cell (p := ⟨b, off + k * 6, none⟩) hb').trans (by have := hcell 0 _ rfl; simpa using this)
  · exact (hb.cell (p := ⟨b, off + k * 6 + 1, none⟩) hb').trans (hcell 1 _ rfl)
  · exact (hb.cell (p := ⟨b, off + k * 6 + 2, none⟩) hb').trans (hcell 2 _ rfl)
  · exact (hb.cell (p := ⟨b, off + k * 6 + 3, none⟩) hb').trans (hcell 3 _ rfl)
  · exact (hb.cell (p := ⟨b, off + k * 6 + 4, none⟩) hb').trans (hcell 4 _ rfl)
  · exact (hb.cell (p := ⟨b, off + k * 6 + 5, none⟩) hb').trans (hcell 5 _ rfl)
theorem Rd.atW {w : World} {A : Option Addr} {n c : Nat} {us : List Wrap} (hr : Rd w w.heap.size 6 A n c (us.flatMap encWrap)) (hn : us.length = n) (h0 : 0 < n) : ∃ b off, A = some ⟨b, off, none⟩ ∧ b < w.heap.size := by
  obtain ⟨b, off, h1, h2, _⟩ := hr.elem encWrap_len hn (i := 0) h0
  exact ⟨b, off, h1, h2⟩
set_option maxHeartbeats 16000000 in
set_option maxRecDepth 10000 in
theorem specRackOk_any (key next : Int) (A : Option Addr) (n c : Nat) (us : List Wrap) (w : World) (hr : Rd w w.heap.size 6 A n c (us.flatMap encWrap)) (hn : us.length = n) (hsz : ∀ u ∈ us, u.kind.size ≤ maxLen) :
    Calls Tryd.prog 12 #[.agg #[.int .i64 key, .int .i64 next, .slice A n c]] w fun e w' => e = .returned (.bool (rackOk key next us)) ∧ Below w.heap.size w w' := by
  have hc := hr.2.1
  have hm := hr.2.2.1
  unfold maxLen at hm
  have H := Hp.nil w
  obtain ⟨r, hd⟩ : ∃ r, rackOk key next us = r := ⟨_, rfl⟩
  have HD := Lib.hid hd
  rw [hd]; clear hd
  cases h1 : inR key 0 1099511627776 with
  | false =>
    have HE : Hid (r = false) := by show _ = _; rw [← HD.out, rackOk, h1]; rfl
    clear HD
    go_enter Tryd.func12, Tryd.ntmps12
    go_wp2_with (first | (go_at_call 42; refine (l04Key_any _ _).mono ?_; rintro e w' ⟨rfl, rfl⟩; rw [h1]) | (go_at_call 43; refine (l01In_any _ _ _ _).mono ?_; rintro e w' ⟨rfl, rfl⟩; rw [h2]))
    go_ret
    exact ⟨by rw [HE.out]; rfl, Hp.b (by repeat (first | (with_reducible exact H) | (with_reducible apply Hp.alloc) | (with_reducible apply Hp.set) | (with_reducible apply Hp.drew) | (with_reducible apply Hp.drewN) | (with_reducible apply Hp.bytesW) | (with_reducible exact Upd.here) | (with_reducible exact Upd.hereR) | (with_reducible apply Upd.there) | (with_reducible apply Sz.alloc) | (with_reducible apply Sz.set) | (with_reducible apply Sz.drew) | (with_reducible apply Sz.drewN) | (with_reducible apply Sz.bytesW) | (with_reducible assumption) | (with_reducible exact Sz.base _)))⟩
  | true =>
  cases h2 : inR next 1 1000000000 with
  | false =>
    have HE : Hid (r = false) := by show _ = _; rw [← HD.out, rackOk, h1, h2]; rfl
    clear HD
    go_enter Tryd.func12, Tryd.ntmps12
    go_wp2_with (first | (go_at_call 42; refine (l04Key_any _ _).mono ?_; rintro e w' ⟨rfl, rfl⟩; rw [h1]) | (go_at_call 43; refine (l01In_any _ _ _ _).mono ?_; rintro e w' ⟨rfl, rfl⟩; rw [h2]))
    go_ret
    exact ⟨by rw [HE.out]; rfl, Hp.b (by repeat (first | (with_reducible exact H) | (with_reducible apply Hp.alloc) | (with_reducible apply Hp.set) | (with_reducible apply Hp.drew) | (with_reducible apply Hp.drewN) | (with_reducible apply Hp.bytesW) | (with_reducible exact Upd.here) | (with_reducible exact Upd.hereR) | (with_reducible apply Upd.there) | (with_reducible apply Sz.alloc) | (with_reducible apply Sz.set) | (with_reducible apply Sz.drew) | (with_reducible apply Sz.drewN) | (with_reducible apply Sz.bytesW) | (with_reducible assumption) | (with_reducible exact Sz.base _)))⟩
  | true =>
  by_cases h60 : ¬ n ≤ 60
  · have HE : Hid (r = false) := by show _ = _; rw [← HD.out, rackOk, h1, h2, hn]; simp [h60]
    have h60i : (60 : Int) < (n : Int) := by omega
    clear HD h60
    go_enter Tryd.func12, Tryd.ntmps12
    go_wp2_with (first | (go_at_call 42; refine (l04Key_any _ _).mono ?_; rintro e w' ⟨rfl, rfl⟩; rw [h1]) | (go_at_call 43; refine (l01In_any _ _ _ _).mono ?_; rintro e w' ⟨rfl, rfl⟩; rw [h2]))
    go_ret
    exact ⟨by rw [HE.out]; rfl, Hp.b (by repeat (first | (with_reducible exact H) | (with_reducible apply Hp.alloc) | (with_reducible apply Hp.set) | (with_reducible apply Hp.drew) | (with_reducible apply Hp.drewN) | (with_reducible apply Hp.bytesW) | (with_reducible exact Upd.here) | (with_reducible exact Upd.hereR) | (with_reducible apply Upd.there) | (with_reducible apply Sz.alloc) | (with_reducible apply Sz.set) | (with_reducible apply Sz.drew) | (with_reducible apply Sz.drewN) | (with_reducible apply Sz.bytesW) | (with_reducible assumption) | (with_reducible exact Sz.base _)))⟩
  have h60 : n ≤ 60 := by omega
  have HE : Hid (r = rackRise next us n) := by show _ = _; rw [← HD.out, rackOk, h1, h2, hn]; simp [h60]
  have h60i : ¬ (60 : Int) < (n : Int) := by omega
  have h60b : decide ((60 : Int) < (n : Int)) = false := decide_eq_false h60i
  obtain ⟨hn1, hn2⟩ := inR_true.1 h2
  have hwn : IntKind.i64.wrap (next - 1) = next - 1 := by rw [IntKind.wrap_i64]; omega
  clear HD
  go_enter Tryd.func12, Tryd.ntmps12
  go_wp2_with (first | (go_at_call 42; refine (l04Key_any _ _).mono ?_; rintro e w' ⟨rfl, rfl⟩; rw [h1]) | (go_at_call 43; refine (l01In_any _ _ _ _).mono ?_; rintro e w' ⟨rfl, rfl⟩; rw [h2]))
  clear h60i h60b h1 h2
  have HH := Lib.hid H; clear H
  go_loopw [3] (fun i wr => ∃ k : Nat, k ≤ n ∧ i = .int .i64 k ∧ Hid (rackRise next us k = true) ∧ Hid (Hp w wr [box w.heap.size 29 [.int .i64 key, .int .i64 next, .slice A n c]])) (fun i _ => n - (intOf i).toNat)
  case atStart =>
    have H := HH.out
    exact ⟨0, Nat.zero_le _, rfl, rfl, Lib.hid (by repeat (first | (with_reducible exact H) | (with_reducible apply Hp.alloc) | (with_reducible apply Hp.set) | (with_reducible apply Hp.drew) | (with_reducible apply Hp.drewN) | (with_reducible apply Hp.bytesW) | (with_reducible exact Upd.here) | (with_reducible exact Upd.hereR) | (with_reducible apply Upd.there) | (with_reducible apply Sz.alloc) | (with_reducible apply Sz.set) | (with_reducible apply Sz.drew) | (with_reducible apply Sz.drewN) | (with_reducible apply Sz.bytesW) | (with_reducible assumption) | (with_reducible exact Sz.base _)))⟩
  case round =>
    clear HH
    obtain ⟨k, hk, rfl, HR, HP⟩ := hrel
    have H := HP.out
    have F := H.facts; simp only [Facts, NeF, box, row, reg, cellsF, ne_eq, true_and, and_true, Nat.reduceAdd, Nat.zero_add] at F
    by_cases hlt : k < n
    · obtain ⟨b, off, rfl, hb⟩ := Rd.atW hr hn (by omega)
      have hcs : ∀ (W : World) (L : List Ent), Hp w W L → _ := fun W L h => Rd.wrapAt hr hn (k := k) (by omega) rfl W h.b
      have hls : (us[k]'(by omega)).kind.size ≤ maxLen := hsz _ (List.getElem_mem _)
      have hst : wrapStep next us k = (inR (us[k]'(by omega)).id 1 (next - 1) && (inR (us[k]'(by omega)).ends 1 1000000000 && (pathF (us[k]'(by omega)).kind && (decide (k = 0) || decide (((us[k - 1]?.map (·.id)).getD 0) < (us[k]'(by omega)).id))))) := by
        unfold wrapStep; rw [List.getElem?_eq_getElem (by omega : k < us.length)]
      have hk1 : (k : Int) < (n : Int) := by omega
      have hk0 : (0 : Int) ≤ (k : Int) := by omega
      by_cases hkz : k = 0
      · have hk2 : decide ((0 : Int) < (k : Int)) = false := by simp; omega
        have hk2n : decide (0 < k) = false := by simp; omega
        have hst0 : wrapStep next us k = (inR (us[k]'(by omega)).id 1 (next - 1) && (inR (us[k]'(by omega)).ends 1 1000000000 && pathF (us[k]'(by omega)).kind)) := by rw [hst]; simp [hkz]
        clear hst
        generalize (us[k]'(by omega)) = l at *
        clear hkz
        cases g1 : inR l.id 1 (next - 1) with
        | false =>
          have g2 : True := trivial
          have g3 : True := trivial
          have HN : Hid (rackRise next us n = false) := rackRise_no hlt (by rw [hst0, g1]; rfl)
          clear hst0
          have HCS := Lib.hid hcs
          clear hcs
          obtain ⟨c0, c1, c2, c3, c4, c5⟩ := HCS.out _ _ H
          obtain ⟨id, ends, kind, nonce, data, da, dc, tag⟩ := l
          dsimp only at c0 c1 c2 c3 c4 c5 hls g1 g2 g3
          have hbw : b < wr.heap.size := Nat.lt_of_lt_of_le hb H.b.size
          have hbe : ¬ b = wr.heap.size ∧ ¬ wr.heap.size = b := by omega
          go_wp2_with fail
          replace H := H.alloc (t := 67) (cs := [.int .i64 id, .int .i64 ends, .string kind, .int .i64 nonce, .slice da data.length dc, .int .i64 tag]) (Sz.base wr)
          clear F; have F := H.facts; simp only [Facts, NeF, box, row, reg, cellsF, ne_eq, true_and, and_true, Nat.reduceAdd, Nat.zero_add] at F
          clear F
          (refine wp_region_quiet (C := fun W => Hp w W [box wr.heap.size 67 [.int .i64 id, .int .i64 ends, .string kind, .int .i64 nonce, .slice da data.length dc, .int .i64 tag], box w.heap.size 29 [.int .i64 key, .int .i64 next, .slice (some ⟨b, off, none⟩) n c]]) (by kernel_rfl) (by kernel_rfl) (by show Hp _ (World.drew _) _; exact (by repeat (first | (with_reducible exact H) | (with_reducible apply Hp.alloc) | (with_reducible apply Hp.set) | (with_reducible apply Hp.drew) | (with_reducible apply Hp.drewN) | (with_reducible apply Hp.bytesW) | (with_reducible exact Upd.here) | (with_reducible exact Upd.hereR) | (with_reducible apply Upd.there) | (with_reducible apply Sz.alloc) | (with_reducible apply Sz.set) | (with_reducible apply Sz.drew) | (with_reducible apply Sz.drewN) | (with_reducible apply Sz.bytesW) | (with_reducible assumption) | (with_reducible exact Sz.base _)))) ?_; (repeat (first | go_big_quiet_skip | (refine BigFrame.wpQuiet_want (by rfl) (fun K hK => ?_); unfold Oper.quiet; apply Exists.intro; refine ⟨fun W hW => ?_, hK _ ?_⟩; (focus (have G := hW.facts; simp only [Facts, NeF, box, row, reg, cellsF, ne_eq, true_and, and_true, Nat.reduceAdd, Nat.zero_add] at G; skip; go_simp; first | rfl | (go_at_call 43; refine (l01In_any _ _ _ _).mono ?_; rintro e w' ⟨rfl, rfl⟩; (first | rw [g1] | rw [g2]); exact ⟨rfl, hW⟩) | (go_at_call 44; refine (PathOk_any kind _ hls).mono ?_; rintro e w1 ⟨rfl, hb1⟩; rw [g3]; exact ⟨rfl, hW.step hb1⟩))); clear hK K; simp only [Act.put, List.setIfInBounds_toArray, List.set_cons_zero, List.set_cons_succ]))); refine wpQuiet_nil ?_; intro wq H; have F := H.facts; simp only [Facts, NeF, box, row, reg, cellsF, ne_eq, true_and, and_true, Nat.reduceAdd, Nat.zero_add] at F)
          all_goals
            go_wp2_with fail
            go_ret
            exact ⟨by rw [HE.out, HN.out]; rfl, Hp.b (by repeat (first | (with_reducible exact H) | (with_reducible apply Hp.alloc) | (with_reducible apply Hp.set) | (with_reducible apply Hp.drew) | (with_reducible apply Hp.drewN) | (with_reducible apply Hp.bytesW) | (with_reducible exact Upd.here) | (with_reducible exact Upd.hereR) | (with_reducible apply Upd.there) | (with_reducible apply Sz.alloc) | (with_reducible apply Sz.set) | (with_reducible apply Sz.drew) | (with_reducible apply Sz.drewN) | (with_reducible apply Sz.bytesW) | (with_reducible assumption) | (with_reducible exact Sz.base _)))⟩
        | true =>
        cases g2 : inR l.ends 1 1000000000 with
        | false =>
          have g3 : True := trivial
          have HN : Hid (rackRise next us n = false) := rackRise_no hlt (by rw [hst0, g1, g2]; rfl)
          clear hst0
          have HCS := Lib.hid hcs
          clear hcs
          obtain ⟨c0, c1, c2, c3, c4, c5⟩ := HCS.out _ _ H
          obtain ⟨id, ends, kind, nonce, data, da, dc, tag⟩ := l
          dsimp only at c0 c1 c2 c3 c4 c5 hls g1 g2 g3
          have hbw : b < wr.heap.size := Nat.lt_of_lt_of_le hb H.b.size
          have hbe : ¬ b = wr.heap.size ∧ ¬ wr.heap.size = b := by omega
          go_wp2_with fail
          replace H := H.alloc (t := 67) (cs := [.int .i64 id, .int .i64 ends, .string kind, .int .i64 nonce, .slice da data.length dc, .int .i64 tag]) (Sz.base wr)
          clear F; have F := H.facts; simp only [Facts, NeF, box, row, reg, cellsF, ne_eq, true_and, and_true, Nat.reduceAdd, Nat.zero_add] at F
          clear F
          (refine wp_region_quiet (C := fun W => Hp w W [box wr.heap.size 67 [.int .i64 id, .int .i64 ends, .string kind, .int .i64 nonce, .slice da data.length dc, .int .i64 tag], box w.heap.size 29 [.int .i64 key, .int .i64 next, .slice (some ⟨b, off, none⟩) n c]]) (by kernel_rfl) (by kernel_rfl) (by show Hp _ (World.drew _) _; exact (by repeat (first | (with_reducible exact H) | (with_reducible apply Hp.alloc) | (with_reducible apply Hp.set) | (with_reducible apply Hp.drew) | (with_reducible apply Hp.drewN) | (with_reducible apply Hp.bytesW) | (with_reducible exact Upd.here) | (with_reducible exact Upd.hereR) | (with_reducible apply Upd.there) | (with_reducible apply Sz.alloc) | (with_reducible apply Sz.set) | (with_reducible apply Sz.drew) | (with_reducible apply Sz.drewN) | (with_reducible apply Sz.bytesW) | (with_reducible assumption) | (with_reducible exact Sz.base _)))) ?_; (repeat (first | go_big_quiet_skip | (refine BigFrame.wpQuiet_want (by rfl) (fun K hK => ?_); unfold Oper.quiet; apply Exists.intro; refine ⟨fun W hW => ?_, hK _ ?_⟩; (focus (have G := hW.facts; simp only [Facts, NeF, box, row, reg, cellsF, ne_eq, true_and, and_true, Nat.reduceAdd, Nat.zero_add] at G; skip; go_simp; first | rfl | (go_at_call 43; refine (l01In_any _ _ _ _).mono ?_; rintro e w' ⟨rfl, rfl⟩; (first | rw [g1] | rw [g2]); exact ⟨rfl, hW⟩) | (go_at_call 44; refine (PathOk_any kind _ hls).mono ?_; rintro e w1 ⟨rfl, hb1⟩; rw [g3]; exact ⟨rfl, hW.step hb1⟩))); clear hK K; simp only [Act.put, List.setIfInBounds_toArray, List.set_cons_zero, List.set_cons_succ]))); refine wpQuiet_nil ?_; intro wq H; have F := H.facts; simp only [Facts, NeF, box, row, reg, cellsF, ne_eq, true_and, and_true, Nat.reduceAdd, Nat.zero_add] at F)
          all_goals
            go_wp2_with fail
            go_ret
            exact ⟨by rw [HE.out, HN.out]; rfl, Hp.b (by repeat (first | (with_reducible exact H) | (with_reducible apply Hp.alloc) | (with_reducible apply Hp.set) | (with_reducible apply Hp.drew) | (with_reducible apply Hp.drewN) | (with_reducible apply Hp.bytesW) | (with_reducible exact Upd.here) | (with_reducible exact Upd.hereR) | (with_reducible apply Upd.there) | (with_reducible apply Sz.alloc) | (with_reducible apply Sz.set) | (with_reducible apply Sz.drew) | (with_reducible apply Sz.drewN) | (with_reducible apply Sz.bytesW) | (with_reducible assumption) | (with_reducible exact Sz.base _)))⟩
        | true =>
        cases g3 : pathF l.kind with
        | false =>
          have HN : Hid (rackRise next us n = false) := rackRise_no hlt (by rw [hst0, g1, g2, g3]; rfl)
          clear hst0
          have HCS := Lib.hid hcs
          clear hcs
          obtain ⟨c0, c1, c2, c3, c4, c5⟩ := HCS.out _ _ H
          obtain ⟨id, ends, kind, nonce, data, da, dc, tag⟩ := l
          dsimp only at c0 c1 c2 c3 c4 c5 hls g1 g2 g3
          have hbw : b < wr.heap.size := Nat.lt_of_lt_of_le hb H.b.size
          have hbe : ¬ b = wr.heap.size ∧ ¬ wr.heap.size = b := by omega
          go_wp2_with fail
          replace H := H.alloc (t := 67) (cs := [.int .i64 id, .int .i64 ends, .string kind, .int .i64 nonce, .slice da data.length dc, .int .i64 tag]) (Sz.base wr)
          clear F; have F := H.facts; simp only [Facts, NeF, box, row, reg, cellsF, ne_eq, true_and, and_true, Nat.reduceAdd, Nat.zero_add] at F
          clear F
          (refine wp_region_quiet (C := fun W => Hp w W [box wr.heap.size 67 [.int .i64 id, .int .i64 ends, .string kind, .int .i64 nonce, .slice da data.length dc, .int .i64 tag], box w.heap.size 29 [.int .i64 key, .int .i64 next, .slice (some ⟨b, off, none⟩) n c]]) (by kernel_rfl) (by kernel_rfl) (by show Hp _ (World.drew _) _; exact (by repeat (first | (with_reducible exact H) | (with_reducible apply Hp.alloc) | (with_reducible apply Hp.set) | (with_reducible apply Hp.drew) | (with_reducible apply Hp.drewN) | (with_reducible apply Hp.bytesW) | (with_reducible exact Upd.here) | (with_reducible exact Upd.hereR) | (with_reducible apply Upd.there) | (with_reducible apply Sz.alloc) | (with_reducible apply Sz.set) | (with_reducible apply Sz.drew) | (with_reducible apply Sz.drewN) | (with_reducible apply Sz.bytesW) | (with_reducible assumption) | (with_reducible exact Sz.base _)))) ?_; (repeat (first | go_big_quiet_skip | (refine BigFrame.wpQuiet_want (by rfl) (fun K hK => ?_); unfold Oper.quiet; apply Exists.intro; refine ⟨fun W hW => ?_, hK _ ?_⟩; (focus (have G := hW.facts; simp only [Facts, NeF, box, row, reg, cellsF, ne_eq, true_and, and_true, Nat.reduceAdd, Nat.zero_add] at G; skip; go_simp; first | rfl | (go_at_call 43; refine (l01In_any _ _ _ _).mono ?_; rintro e w' ⟨rfl, rfl⟩; (first | rw [g1] | rw [g2]); exact ⟨rfl, hW⟩) | (go_at_call 44; refine (PathOk_any kind _ hls).mono ?_; rintro e w1 ⟨rfl, hb1⟩; rw [g3]; exact ⟨rfl, hW.step hb1⟩))); clear hK K; simp only [Act.put, List.setIfInBounds_toArray, List.set_cons_zero, List.set_cons_succ]))); refine wpQuiet_nil ?_; intro wq H; have F := H.facts; simp only [Facts, NeF, box, row, reg, cellsF, ne_eq, true_and, and_true, Nat.reduceAdd, Nat.zero_add] at F)
          all_goals
            go_wp2_with fail
            go_ret
            exact ⟨by rw [HE.out, HN.out]; rfl, Hp.b (by repeat (first | (with_reducible exact H) | (with_reducible apply Hp.alloc) | (with_reducible apply Hp.set) | (with_reducible apply Hp.drew) | (with_reducible apply Hp.drewN) | (with_reducible apply Hp.bytesW) | (with_reducible exact Upd.here) | (with_reducible exact Upd.hereR) | (with_reducible apply Upd.there) | (with_reducible apply Sz.alloc) | (with_reducible apply Sz.set) | (with_reducible apply Sz.drew) | (with_reducible apply Sz.drewN) | (with_reducible apply Sz.bytesW) | (with_reducible assumption) | (with_reducible exact Sz.base _)))⟩
        | true =>
          have HN : Hid (rackRise next us (k + 1) = true) := rackRise_snoc HR.out (by rw [hst0, g1, g2, g3]; rfl)
          clear hst0
          have HCS := Lib.hid hcs
          clear hcs
          obtain ⟨c0, c1, c2, c3, c4, c5⟩ := HCS.out _ _ H
          obtain ⟨id, ends, kind, nonce, data, da, dc, tag⟩ := l
          dsimp only at c0 c1 c2 c3 c4 c5 hls g1 g2 g3
          have hbw : b < wr.heap.size := Nat.lt_of_lt_of_le hb H.b.size
          have hbe : ¬ b = wr.heap.size ∧ ¬ wr.heap.size = b := by omega
          go_wp2_with fail
          replace H := H.alloc (t := 67) (cs := [.int .i64 id, .int .i64 ends, .string kind, .int .i64 nonce, .slice da data.length dc, .int .i64 tag]) (Sz.base wr)
          clear F; have F := H.facts; simp only [Facts, NeF, box, row, reg, cellsF, ne_eq, true_and, and_true, Nat.reduceAdd, Nat.zero_add] at F
          clear F
          (refine wp_region_quiet (C := fun W => Hp w W [box wr.heap.size 67 [.int .i64 id, .int .i64 ends, .string kind, .int .i64 nonce, .slice da data.length dc, .int .i64 tag], box w.heap.size 29 [.int .i64 key, .int .i64 next, .slice (some ⟨b, off, none⟩) n c]]) (by kernel_rfl) (by kernel_rfl) (by show Hp _ (World.drew _) _; exact (by repeat (first | (with_reducible exact H) | (with_reducible apply Hp.alloc) | (with_reducible apply Hp.set) | (with_reducible apply Hp.drew) | (with_reducible apply Hp.drewN) | (with_reducible apply Hp.bytesW) | (with_reducible exact Upd.here) | (with_reducible exact Upd.hereR) | (with_reducible apply Upd.there) | (with_reducible apply Sz.alloc) | (with_reducible apply Sz.set) | (with_reducible apply Sz.drew) | (with_reducible apply Sz.drewN) | (with_reducible apply Sz.bytesW) | (with_reducible assumption) | (with_reducible exact Sz.base _)))) ?_; (repeat (first | go_big_quiet_skip | (refine BigFrame.wpQuiet_want (by rfl) (fun K hK => ?_); unfold Oper.quiet; apply Exists.intro; refine ⟨fun W hW => ?_, hK _ ?_⟩; (focus (have G := hW.facts; simp only [Facts, NeF, box, row, reg, cellsF, ne_eq, true_and, and_true, Nat.reduceAdd, Nat.zero_add] at G; skip; go_simp; first | rfl | (go_at_call 43; refine (l01In_any _ _ _ _).mono ?_; rintro e w' ⟨rfl, rfl⟩; (first | rw [g1] | rw [g2]); exact ⟨rfl, hW⟩) | (go_at_call 44; refine (PathOk_any kind _ hls).mono ?_; rintro e w1 ⟨rfl, hb1⟩; rw [g3]; exact ⟨rfl, hW.step hb1⟩))); clear hK K; simp only [Act.put, List.setIfInBounds_toArray, List.set_cons_zero, List.set_cons_succ]))); refine wpQuiet_nil ?_; intro wq H; have F := H.facts; simp only [Facts, NeF, box, row, reg, cellsF, ne_eq, true_and, and_true, Nat.reduceAdd, Nat.zero_add] at F)
          all_goals
            go_wp2_with fail
            go_roundw
            case rel => exact ⟨k + 1, by omega, by go_num, HN, Lib.hid (by refine Hp.sel (by repeat (first | (with_reducible exact H) | (with_reducible apply Hp.alloc) | (with_reducible apply Hp.set) | (with_reducible apply Hp.drew) | (with_reducible apply Hp.drewN) | (with_reducible apply Hp.bytesW) | (with_reducible exact Upd.here) | (with_reducible exact Upd.hereR) | (with_reducible apply Upd.there) | (with_reducible apply Sz.alloc) | (with_reducible apply Sz.set) | (with_reducible apply Sz.drew) | (with_reducible apply Sz.drewN) | (with_reducible apply Sz.bytesW) | (with_reducible assumption) | (with_reducible exact Sz.base _))) ?_; (try simp only [List.set_cons_zero, List.set_cons_succ]); exact (by repeat (first | (with_reducible exact Sel.nil) | (with_reducible apply Sel.cons) | (with_reducible exact Del.here) | (with_reducible apply Del.there))))⟩
            case measure => simp [intOf]; omega
      · have hk2 : decide ((0 : Int) < (k : Int)) = true := by simp; omega
        have hk2n : decide (0 < k) = true := by simp; omega
        have hw1 : IntKind.i64.wrap ((k : Int) - 1) = (k : Int) - 1 := by rw [IntKind.wrap_i64]; omega
        have hp1 : (k : Int) - 1 < (n : Int) := by omega
        have hp0 : (0 : Int) ≤ (k : Int) - 1 := by omega
        have hp2 : (1 : Int) ≤ (k : Int) := by omega
        have hqs : ∀ (W : World) (L : List Ent), Hp w W L → W.cell? ⟨b, off + (k - 1) * 6, none⟩ = some (.int .i64 (us[k - 1]'(by omega)).id) := fun W L h => (Rd.wrapAt hr hn (k := k - 1) (by omega) rfl W h.b).1
        have hpe : (us[k - 1]?.map (·.id)).getD 0 = (us[k - 1]'(by omega)).id := by rw [List.getElem?_eq_getElem (by omega : k - 1 < us.length)]; rfl
        have hst0 : wrapStep next us k = (inR (us[k]'(by omega)).id 1 (next - 1) && (inR (us[k]'(by omega)).ends 1 1000000000 && (pathF (us[k]'(by omega)).kind && decide ((us[k - 1]'(by omega)).id < (us[k]'(by omega)).id)))) := by rw [hst, hpe]; simp [hkz]
        clear hpe hst
        generalize (us[k - 1]'(by omega)).id = q at *
        have HQS := Lib.hid hqs
        clear hqs
        generalize (us[k]'(by omega)) = l at *
        clear hkz
        cases g1 : inR l.id 1 (next - 1) with
        | false =>
          have g2 : True := trivial
          have g3 : True := trivial
          have HN : Hid (rackRise next us n = false) := rackRise_no hlt (by rw [hst0, g1]; rfl)
          clear hst0
          have HCS := Lib.hid hcs
          clear hcs
          obtain ⟨c0, c1, c2, c3, c4, c5⟩ := HCS.out _ _ H
          obtain ⟨id, ends, kind, nonce, data, da, dc, tag⟩ := l
          dsimp only at c0 c1 c2 c3 c4 c5 hls g1 g2 g3
          have hbw : b < wr.heap.size := Nat.lt_of_lt_of_le hb H.b.size
          have hbe : ¬ b = wr.heap.size ∧ ¬ wr.heap.size = b := by omega
          go_wp2_with fail
          replace H := H.alloc (t := 67) (cs := [.int .i64 id, .int .i64 ends, .string kind, .int .i64 nonce, .slice da data.length dc, .int .i64 tag]) (Sz.base wr)
          clear F; have F := H.facts; simp only [Facts, NeF, box, row, reg, cellsF, ne_eq, true_and, and_true, Nat.reduceAdd, Nat.zero_add] at F
          clear F
          (refine wp_region_quiet (C := fun W => Hp w W [box wr.heap.size 67 [.int .i64 id, .int .i64 ends, .string kind, .int .i64 nonce, .slice da data.length dc, .int .i64 tag], box w.heap.size 29 [.int .i64 key, .int .i64 next, .slice (some ⟨b, off, none⟩) n c]]) (by kernel_rfl) (by kernel_rfl) (by show Hp _ (World.drew _) _; exact (by repeat (first | (with_reducible exact H) | (with_reducible apply Hp.alloc) | (with_reducible apply Hp.set) | (with_reducible apply Hp.drew) | (with_reducible apply Hp.drewN) | (with_reducible apply Hp.bytesW) | (with_reducible exact Upd.here) | (with_reducible exact Upd.hereR) | (with_reducible apply Upd.there) | (with_reducible apply Sz.alloc) | (with_reducible apply Sz.set) | (with_reducible apply Sz.drew) | (with_reducible apply Sz.drewN) | (with_reducible apply Sz.bytesW) | (with_reducible assumption) | (with_reducible exact Sz.base _)))) ?_; (repeat (first | go_big_quiet_skip | (refine BigFrame.wpQuiet_want (by rfl) (fun K hK => ?_); unfold Oper.quiet; apply Exists.intro; refine ⟨fun W hW => ?_, hK _ ?_⟩; (focus (have G := hW.facts; simp only [Facts, NeF, box, row, reg, cellsF, ne_eq, true_and, and_true, Nat.reduceAdd, Nat.zero_add] at G; skip; go_simp; first | rfl | (go_at_call 43; refine (l01In_any _ _ _ _).mono ?_; rintro e w' ⟨rfl, rfl⟩; (first | rw [g1] | rw [g2]); exact ⟨rfl, hW⟩) | (go_at_call 44; refine (PathOk_any kind _ hls).mono ?_; rintro e w1 ⟨rfl, hb1⟩; rw [g3]; exact ⟨rfl, hW.step hb1⟩))); clear hK K; simp only [Act.put, List.setIfInBounds_toArray, List.set_cons_zero, List.set_cons_succ]))); refine wpQuiet_nil ?_; intro wq H; have F := H.facts; simp only [Facts, NeF, box, row, reg, cellsF, ne_eq, true_and, and_true, Nat.reduceAdd, Nat.zero_add] at F)
          all_goals
            go_wp2_with fail
            go_ret
            exact ⟨by rw [HE.out, HN.out]; rfl, Hp.b (by repeat (first | (with_reducible exact H) | (with_reducible apply Hp.alloc) | (with_reducible apply Hp.set) | (with_reducible apply Hp.drew) | (with_reducible apply Hp.drewN) | (with_reducible apply Hp.bytesW) | (with_reducible exact Upd.here) | (with_reducible exact Upd.hereR) | (with_reducible apply Upd.there) | (with_reducible apply Sz.alloc) | (with_reducible apply Sz.set) | (with_reducible apply Sz.drew) | (with_reducible apply Sz.drewN) | (with_reducible apply Sz.bytesW) | (with_reducible assumption) | (with_reducible exact Sz.base _)))⟩
        | true =>
        cases g2 : inR l.ends 1 1000000000 with
        | false =>
          have g3 : True := trivial
          have HN : Hid (rackRise next us n = false) := rackRise_no hlt (by rw [hst0, g1, g2]; rfl)
          clear hst0
          have HCS := Lib.hid hcs
          clear hcs
          obtain ⟨c0, c1, c2, c3, c4, c5⟩ := HCS.out _ _ H
          obtain ⟨id, ends, kind, nonce, data, da, dc, tag⟩ := l
          dsimp only at c0 c1 c2 c3 c4 c5 hls g1 g2 g3
          have hbw : b < wr.heap.size := Nat.lt_of_lt_of_le hb H.b.size
          have hbe : ¬ b = wr.heap.size ∧ ¬ wr.heap.size = b := by omega
          go_wp2_with fail
          replace H := H.alloc (t := 67) (cs := [.int .i64 id, .int .i64 ends, .string kind, .int .i64 nonce, .slice da data.length dc, .int .i64 tag]) (Sz.base wr)
          clear F; have F := H.facts; simp only [Facts, NeF, box, row, reg, cellsF, ne_eq, true_and, and_true, Nat.reduceAdd, Nat.zero_add] at F
          clear F
          (refine wp_region_quiet (C := fun W => Hp w W [box wr.heap.size 67 [.int .i64 id, .int .i64 ends, .string kind, .int .i64 nonce, .slice da data.length dc, .int .i64 tag], box w.heap.size 29 [.int .i64 key, .int .i64 next, .slice (some ⟨b, off, none⟩) n c]]) (by kernel_rfl) (by kernel_rfl) (by show Hp _ (World.drew _) _; exact (by repeat (first | (with_reducible exact H) | (with_reducible apply Hp.alloc) | (with_reducible apply Hp.set) | (with_reducible apply Hp.drew) | (with_reducible apply Hp.drewN) | (with_reducible apply Hp.bytesW) | (with_reducible exact Upd.here) | (with_reducible exact Upd.hereR) | (with_reducible apply Upd.there) | (with_reducible apply Sz.alloc) | (with_reducible apply Sz.set) | (with_reducible apply Sz.drew) | (with_reducible apply Sz.drewN) | (with_reducible apply Sz.bytesW) | (with_reducible assumption) | (with_reducible exact Sz.base _)))) ?_; (repeat (first | go_big_quiet_skip | (refine BigFrame.wpQuiet_want (by rfl) (fun K hK => ?_); unfold Oper.quiet; apply Exists.intro; refine ⟨fun W hW => ?_, hK _ ?_⟩; (focus (have G := hW.facts; simp only [Facts, NeF, box, row, reg, cellsF, ne_eq, true_and, and_true, Nat.reduceAdd, Nat.zero_add] at G; skip; go_simp; first | rfl | (go_at_call 43; refine (l01In_any _ _ _ _).mono ?_; rintro e w' ⟨rfl, rfl⟩; (first | rw [g1] | rw [g2]); exact ⟨rfl, hW⟩) | (go_at_call 44; refine (PathOk_any kind _ hls).mono ?_; rintro e w1 ⟨rfl, hb1⟩; rw [g3]; exact ⟨rfl, hW.step hb1⟩))); clear hK K; simp only [Act.put, List.setIfInBounds_toArray, List.set_cons_zero, List.set_cons_succ]))); refine wpQuiet_nil ?_; intro wq H; have F := H.facts; simp only [Facts, NeF, box, row, reg, cellsF, ne_eq, true_and, and_true, Nat.reduceAdd, Nat.zero_add] at F)
          all_goals
            go_wp2_with fail
            go_ret
            exact ⟨by rw [HE.out, HN.out]; rfl, Hp.b (by repeat (first | (with_reducible exact H) | (with_reducible apply Hp.alloc) | (with_reducible apply Hp.set) | (with_reducible apply Hp.drew) | (with_reducible apply Hp.drewN) | (with_reducible apply Hp.bytesW) | (with_reducible exact Upd.here) | (with_reducible exact Upd.hereR) | (with_reducible apply Upd.there) | (with_reducible apply Sz.alloc) | (with_reducible apply Sz.set) | (with_reducible apply Sz.drew) | (with_reducible apply Sz.drewN) | (with_reducible apply Sz.bytesW) | (with_reducible assumption) | (with_reducible exact Sz.base _)))⟩
        | true =>
        cases g3 : pathF l.kind with
        | false =>
          have HN : Hid (rackRise next us n = false) := rackRise_no hlt (by rw [hst0, g1, g2, g3]; rfl)
          clear hst0
          have HCS := Lib.hid hcs
          clear hcs
          obtain ⟨c0, c1, c2, c3, c4, c5⟩ := HCS.out _ _ H
          obtain ⟨id, ends, kind, nonce, data, da, dc, tag⟩ := l
          dsimp only at c0 c1 c2 c3 c4 c5 hls g1 g2 g3
          have hbw : b < wr.heap.size := Nat.lt_of_lt_of_le hb H.b.size
          have hbe : ¬ b = wr.heap.size ∧ ¬ wr.heap.size = b := by omega
          go_wp2_with fail
          replace H := H.alloc (t := 67) (cs := [.int .i64 id, .int .i64 ends, .string kind, .int .i64 nonce, .slice da data.length dc, .int .i64 tag]) (Sz.base wr)
          clear F; have F := H.facts; simp only [Facts, NeF, box, row, reg, cellsF, ne_eq, true_and, and_true, Nat.reduceAdd, Nat.zero_add] at F
          clear F
          (refine wp_region_quiet (C := fun W => Hp w W [box wr.heap.size 67 [.int .i64 id, .int .i64 ends, .string kind, .int .i64 nonce, .slice da data.length dc, .int .i64 tag], box w.heap.size 29 [.int .i64 key, .int .i64 next, .slice (some ⟨b, off, none⟩) n c]]) (by kernel_rfl) (by kernel_rfl) (by show Hp _ (World.drew _) _; exact (by repeat (first | (with_reducible exact H) | (with_reducible apply Hp.alloc) | (with_reducible apply Hp.set) | (with_reducible apply Hp.drew) | (with_reducible apply Hp.drewN) | (with_reducible apply Hp.bytesW) | (with_reducible exact Upd.here) | (with_reducible exact Upd.hereR) | (with_reducible apply Upd.there) | (with_reducible apply Sz.alloc) | (with_reducible apply Sz.set) | (with_reducible apply Sz.drew) | (with_reducible apply Sz.drewN) | (with_reducible apply Sz.bytesW) | (with_reducible assumption) | (with_reducible exact Sz.base _)))) ?_; (repeat (first | go_big_quiet_skip | (refine BigFrame.wpQuiet_want (by rfl) (fun K hK => ?_); unfold Oper.quiet; apply Exists.intro; refine ⟨fun W hW => ?_, hK _ ?_⟩; (focus (have G := hW.facts; simp only [Facts, NeF, box, row, reg, cellsF, ne_eq, true_and, and_true, Nat.reduceAdd, Nat.zero_add] at G; skip; go_simp; first | rfl | (go_at_call 43; refine (l01In_any _ _ _ _).mono ?_; rintro e w' ⟨rfl, rfl⟩; (first | rw [g1] | rw [g2]); exact ⟨rfl, hW⟩) | (go_at_call 44; refine (PathOk_any kind _ hls).mono ?_; rintro e w1 ⟨rfl, hb1⟩; rw [g3]; exact ⟨rfl, hW.step hb1⟩))); clear hK K; simp only [Act.put, List.setIfInBounds_toArray, List.set_cons_zero, List.set_cons_succ]))); refine wpQuiet_nil ?_; intro wq H; have F := H.facts; simp only [Facts, NeF, box, row, reg, cellsF, ne_eq, true_and, and_true, Nat.reduceAdd, Nat.zero_add] at F)
          all_goals
            go_wp2_with fail
            go_ret
            exact ⟨by rw [HE.out, HN.out]; rfl, Hp.b (by repeat (first | (with_reducible exact H) | (with_reducible apply Hp.alloc) | (with_reducible apply Hp.set) | (with_reducible apply Hp.drew) | (with_reducible apply Hp.drewN) | (with_reducible apply Hp.bytesW) | (with_reducible exact Upd.here) | (with_reducible exact Upd.hereR) | (with_reducible apply Upd.there) | (with_reducible apply Sz.alloc) | (with_reducible apply Sz.set) | (with_reducible apply Sz.drew) | (with_reducible apply Sz.drewN) | (with_reducible apply Sz.bytesW) | (with_reducible assumption) | (with_reducible exact Sz.base _)))⟩
        | true =>
        by_cases g4 : l.id ≤ q
        · have g5 : decide (l.id ≤ q) = true := decide_eq_true g4
          have HN : Hid (rackRise next us n = false) := rackRise_no hlt (by rw [hst0, g1, g2, g3]; simp; omega)
          clear hst0
          have HCS := Lib.hid hcs
          clear hcs
          obtain ⟨c0, c1, c2, c3, c4, c5⟩ := HCS.out _ _ H
          obtain ⟨id, ends, kind, nonce, data, da, dc, tag⟩ := l
          dsimp only at c0 c1 c2 c3 c4 c5 hls g1 g2 g3 g4 g5
          have hbw : b < wr.heap.size := Nat.lt_of_lt_of_le hb H.b.size
          have hbe : ¬ b = wr.heap.size ∧ ¬ wr.heap.size = b := by omega
          go_wp2_with fail
          replace H := H.alloc (t := 67) (cs := [.int .i64 id, .int .i64 ends, .string kind, .int .i64 nonce, .slice da data.length dc, .int .i64 tag]) (Sz.base wr)
          clear F; have F := H.facts; simp only [Facts, NeF, box, row, reg, cellsF, ne_eq, true_and, and_true, Nat.reduceAdd, Nat.zero_add] at F
          clear F
          (refine wp_region_quiet (C := fun W => Hp w W [box wr.heap.size 67 [.int .i64 id, .int .i64 ends, .string kind, .int .i64 nonce, .slice da data.length dc, .int .i64 tag], box w.heap.size 29 [.int .i64 key, .int .i64 next, .slice (some ⟨b, off, none⟩) n c]]) (by kernel_rfl) (by kernel_rfl) (by show Hp _ (World.drew _) _; exact (by repeat (first | (with_reducible exact H) | (with_reducible apply Hp.alloc) | (with_reducible apply Hp.set) | (with_reducible apply Hp.drew) | (with_reducible apply Hp.drewN) | (with_reducible apply Hp.bytesW) | (with_reducible exact Upd.here) | (with_reducible exact Upd.hereR) | (with_reducible apply Upd.there) | (with_reducible apply Sz.alloc) | (with_reducible apply Sz.set) | (with_reducible apply Sz.drew) | (with_reducible apply Sz.drewN) | (with_reducible apply Sz.bytesW) | (with_reducible assumption) | (with_reducible exact Sz.base _)))) ?_; (repeat (first | go_big_quiet_skip | (refine BigFrame.wpQuiet_want (by rfl) (fun K hK => ?_); unfold Oper.quiet; apply Exists.intro; refine ⟨fun W hW => ?_, hK _ ?_⟩; (focus (have G := hW.facts; simp only [Facts, NeF, box, row, reg, cellsF, ne_eq, true_and, and_true, Nat.reduceAdd, Nat.zero_add] at G; have q0 := HQS.out _ _ hW; have hbw9 := Nat.lt_of_lt_of_le hb hW.b.size; go_simp; first | rfl | (go_at_call 43; refine (l01In_any _ _ _ _).mono ?_; rintro e w' ⟨rfl, rfl⟩; (first | rw [g1] | rw [g2]); exact ⟨rfl, hW⟩) | (go_at_call 44; refine (PathOk_any kind _ hls).mono ?_; rintro e w1 ⟨rfl, hb1⟩; rw [g3]; exact ⟨rfl, hW.step hb1⟩))); clear hK K; simp only [Act.put, List.setIfInBounds_toArray, List.set_cons_zero, List.set_cons_succ]))); refine wpQuiet_nil ?_; intro wq H; have F := H.facts; simp only [Facts, NeF, box, row, reg, cellsF, ne_eq, true_and, and_true, Nat.reduceAdd, Nat.zero_add] at F)
          all_goals
            go_wp2_with fail
            go_ret
            exact ⟨by rw [HE.out, HN.out]; rfl, Hp.b (by repeat (first | (with_reducible exact H) | (with_reducible apply Hp.alloc) | (with_reducible apply Hp.set) | (with_reducible apply Hp.drew) | (with_reducible apply Hp.drewN) | (with_reducible apply Hp.bytesW) | (with_reducible exact Upd.here) | (with_reducible exact Upd.hereR) | (with_reducible apply Upd.there) | (with_reducible apply Sz.alloc) | (with_reducible apply Sz.set) | (with_reducible apply Sz.drew) | (with_reducible apply Sz.drewN) | (with_reducible apply Sz.bytesW) | (with_reducible assumption) | (with_reducible exact Sz.base _)))⟩
        · have g5 : decide (l.id ≤ q) = false := decide_eq_false g4
          have HN : Hid (rackRise next us (k + 1) = true) := rackRise_snoc HR.out (by rw [hst0, g1, g2, g3]; simp; omega)
          clear hst0
          have HCS := Lib.hid hcs
          clear hcs
          obtain ⟨c0, c1, c2, c3, c4, c5⟩ := HCS.out _ _ H
          obtain ⟨id, ends, kind, nonce, data, da, dc, tag⟩ := l
          dsimp only at c0 c1 c2 c3 c4 c5 hls g1 g2 g3 g4 g5
          have hbw : b < wr.heap.size := Nat.lt_of_lt_of_le hb H.b.size
          have hbe : ¬ b = wr.heap.size ∧ ¬ wr.heap.size = b := by omega
          go_wp2_with fail
          replace H := H.alloc (t := 67) (cs := [.int .i64 id, .int .i64 ends, .string kind, .int .i64 nonce, .slice da data.length dc, .int .i64 tag]) (Sz.base wr)
          clear F; have F := H.facts; simp only [Facts, NeF, box, row, reg, cellsF, ne_eq, true_and, and_true, Nat.reduceAdd, Nat.zero_add] at F
          clear F
          (refine wp_region_quiet (C := fun W => Hp w W [box wr.heap.size 67 [.int .i64 id, .int .i64 ends, .string kind, .int .i64 nonce, .slice da data.length dc, .int .i64 tag], box w.heap.size 29 [.int .i64 key, .int .i64 next, .slice (some ⟨b, off, none⟩) n c]]) (by kernel_rfl) (by kernel_rfl) (by show Hp _ (World.drew _) _; exact (by repeat (first | (with_reducible exact H) | (with_reducible apply Hp.alloc) | (with_reducible apply Hp.set) | (with_reducible apply Hp.drew) | (with_reducible apply Hp.drewN) | (with_reducible apply Hp.bytesW) | (with_reducible exact Upd.here) | (with_reducible exact Upd.hereR) | (with_reducible apply Upd.there) | (with_reducible apply Sz.alloc) | (with_reducible apply Sz.set) | (with_reducible apply Sz.drew) | (with_reducible apply Sz.drewN) | (with_reducible apply Sz.bytesW) | (with_reducible assumption) | (with_reducible exact Sz.base _)))) ?_; (repeat (first | go_big_quiet_skip | (refine BigFrame.wpQuiet_want (by rfl) (fun K hK => ?_); unfold Oper.quiet; apply Exists.intro; refine ⟨fun W hW => ?_, hK _ ?_⟩; (focus (have G := hW.facts; simp only [Facts, NeF, box, row, reg, cellsF, ne_eq, true_and, and_true, Nat.reduceAdd, Nat.zero_add] at G; have q0 := HQS.out _ _ hW; have hbw9 := Nat.lt_of_lt_of_le hb hW.b.size; go_simp; first | rfl | (go_at_call 43; refine (l01In_any _ _ _ _).mono ?_; rintro e w' ⟨rfl, rfl⟩; (first | rw [g1] | rw [g2]); exact ⟨rfl, hW⟩) | (go_at_call 44; refine (PathOk_any kind _ hls).mono ?_; rintro e w1 ⟨rfl, hb1⟩; rw [g3]; exact ⟨rfl, hW.step hb1⟩))); clear hK K; simp only [Act.put, List.setIfInBounds_toArray, List.set_cons_zero, List.set_cons_succ]))); refine wpQuiet_nil ?_; intro wq H; have F := H.facts; simp only [Facts, NeF, box, row, reg, cellsF, ne_eq, true_and, and_true, Nat.reduceAdd, Nat.zero_add] at F)
          all_goals
            go_wp2_with fail
            go_roundw
            case rel => exact ⟨k + 1, by omega, by go_num, HN, Lib.hid (by refine Hp.sel (by repeat (first | (with_reducible exact H) | (with_reducible apply Hp.alloc) | (with_reducible apply Hp.set) | (with_reducible apply Hp.drew) | (with_reducible apply Hp.drewN) | (with_reducible apply Hp.bytesW) | (with_reducible exact Upd.here) | (with_reducible exact Upd.hereR) | (with_reducible apply Upd.there) | (with_reducible apply Sz.alloc) | (with_reducible apply Sz.set) | (with_reducible apply Sz.drew) | (with_reducible apply Sz.drewN) | (with_reducible apply Sz.bytesW) | (with_reducible assumption) | (with_reducible exact Sz.base _))) ?_; (try simp only [List.set_cons_zero, List.set_cons_succ]); exact (by repeat (first | (with_reducible exact Sel.nil) | (with_reducible apply Sel.cons) | (with_reducible exact Del.here) | (with_reducible apply Del.there))))⟩
            case measure => simp [intOf]; omega
    · have HF : Hid (rackRise next us n = true) := by rw [show n = k by omega]; exact HR
      go_wp2_with fail
      go_ret
      exact ⟨by rw [HE.out, HF.out]; rfl, H.b⟩
end Go.Proofs.YtiooaephjjkgdaaDoor

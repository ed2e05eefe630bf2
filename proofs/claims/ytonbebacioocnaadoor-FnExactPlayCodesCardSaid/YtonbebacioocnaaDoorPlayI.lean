/- Codes played one after the other: the program's walk. No condition. -/
import Derived.Test.YtonbebacioocnaaDoorPlayP
import Derived.Test.YtonbebacioocnaaDoorChkI
import Derived.Test.YtonbebacioocnaaDoorEnInt
import Derived.Test.YtonbebacioocnaaDoorEnStr
import Derived.Deep.RegionWith
import Derived.Deep.DrawnRows
namespace Go.Proofs.YtonbebacioocnaaDoor
open Go.RowKit
set_option linter.unusedVariables false
set_option linter.unusedSimpArgs false
attribute [local go_sem ↓] Go.wp_at_zero Go.wp_at_succ
set_option maxHeartbeats 8000000 in
set_option maxRecDepth 10000 in
theorem implPlayCodes_any (k c f u win : Int) (A : Option Addr) (n cc : Nat) (cs : List ByteArray) (w : World) (hr : Rd w w.heap.size 1 A n cc (cs.flatMap encStr)) (hn : cs.length = n) (ht : tabOk w) :
    Calls Tryd.prog 44 #[.agg #[.int .i64 k, .int .i64 c, .int .i64 f, .int .i64 u], .slice A n cc, .int .i64 win] w fun e w' => ∃ A' c', e = .returned (.tuple #[.agg #[.int .i64 (playCodes k c f u win cs).k, .int .i64 (playCodes k c f u win cs).c, .int .i64 (playCodes k c f u win cs).f, .int .i64 (playCodes k c f u win cs).u], .slice A' (playCodes k c f u win cs).told.length c']) ∧ Hp w w' [rInt A' c' (playCodes k c f u win cs).told] := by
  have H := Hp.nil w
  have hc := hr.2.1
  have hm := hr.2.2.1
  unfold maxLen at hm
  obtain ⟨i1, hi1, hy0, hy1, hy2⟩ := info_parts Tryd.infoInt
  by_cases hb : 200 < n
  · have HR : Hid (playCodes k c f u win cs = ⟨k, c, f, u, []⟩) := by show _ = _; rw [playCodes, if_neg (by omega)]
    go_enter Tryd.func44, Tryd.ntmps44
    go_wp2_with fail
    rw [HR.out]
    refine bodyPost_ret (v := .tuple #[.agg #[.int .i64 k, .int .i64 c, .int .i64 f, .int .i64 u], .slice none 0 0]) (by simp [results, Tryd.results44, go_sem]) rfl ⟨none, 0, rfl, Hp.give (Hp.cons_nilRow (by repeat (first | (with_reducible exact H) | (with_reducible apply Hp.alloc) | (with_reducible apply Hp.set) | (with_reducible apply Hp.drew) | (with_reducible apply Hp.drewN) | (with_reducible apply Hp.bytesW) | (with_reducible exact Upd.here) | (with_reducible exact Upd.hereR) | (with_reducible apply Upd.there) | (with_reducible apply Sz.alloc) | (with_reducible apply Sz.set) | (with_reducible apply Sz.drew) | (with_reducible apply Sz.drewN) | (with_reducible apply Sz.bytesW) | (with_reducible assumption) | (with_reducible exact Sz.base _))) 3 1) [0] (by decide) (by rfl)⟩
  have HR : Hid (playCodes k c f u win cs = playR win ⟨k, c, f, u, []⟩ cs) := by show _ = _; rw [playCodes, if_pos (by omega)]
  rw [HR.out]
  go_enter Tryd.func44, Tryd.ntmps44
  go_wp2_with fail
  go_loopw [8, 19] (fun v i wr => ∃ x : Nat, x ≤ n ∧ i = .int .i64 x ∧ ∃ r : PlayR, r.told.length = x ∧ Hid (playR win ⟨k, c, f, u, []⟩ (cs.take x) = r) ∧ ∃ A' c', v = .slice A' r.told.length c' ∧ Hid (Hp w wr [rInt A' c' r.told, box (w.heap.size + 1) 36 [.int .i64 0, .int .i64 0, .int .i64 0, .int .i64 0], box w.heap.size 36 [.int .i64 r.k, .int .i64 r.c, .int .i64 r.f, .int .i64 r.u]])) (fun _ i _ => n - (intOf i).toNat)
  case atStart => exact ⟨0, Nat.zero_le _, rfl, ⟨k, c, f, u, []⟩, rfl, Lib.hid (by simp [playR]), none, 0, rfl, Lib.hid (Hp.give (Hp.cons_nilRow (by repeat (first | (with_reducible exact H) | (with_reducible apply Hp.alloc) | (with_reducible apply Hp.set) | (with_reducible apply Hp.drew) | (with_reducible apply Hp.drewN) | (with_reducible apply Hp.bytesW) | (with_reducible exact Upd.here) | (with_reducible exact Upd.hereR) | (with_reducible apply Upd.there) | (with_reducible apply Sz.alloc) | (with_reducible apply Sz.set) | (with_reducible apply Sz.drew) | (with_reducible apply Sz.drewN) | (with_reducible apply Sz.bytesW) | (with_reducible assumption) | (with_reducible exact Sz.base _))) 3 1) [0, 1, 2] (by decide) (by rfl))⟩
  case round =>
    clear H
    obtain ⟨x, hx, rfl, r, hrl, HX, A', c', rfl, HP⟩ := hrel
    have H := HP.out
    have F := H.facts; simp only [Facts, NeF, box, row, reg, cellsF, rInt, ne_eq, true_and, and_true, Nat.reduceAdd, Nat.zero_add] at F
    by_cases hlt : x < n
    · obtain ⟨b, off, rfl, hb, hcell⟩ := hr.elem encStr_len hn hlt
      have c0 := H.b.cell (p := ⟨b, off + x * 1 + 0, none⟩) hb |>.trans (hcell 0 _ rfl)
      simp only [Nat.add_zero, Nat.mul_one] at c0
      have HN : Hid (playR win ⟨k, c, f, u, []⟩ (cs.take (x + 1)) = playStep win r (cs[x]'(by omega))) := by show _ = _; rw [playR_take (by omega), HX.out]
      clear hcell
      generalize (cs[x]'(by omega)) = s at *
      have hx1 : (x : Int) < (n : Int) := by omega
      have hx0 : (0 : Int) ≤ (x : Int) := by omega
      have hl : r.told.length + 1 ≤ maxLen := by unfold maxLen; omega
      have hl2 : r.told.length + 1 ≤ 1000 := by omega
      have HS : Hid (playStep win r s = ⟨(checkV r.k r.c r.f r.u s win x).k, (checkV r.k r.c r.f r.u s win x).c, (checkV r.k r.c r.f r.u s win x).f, (checkV r.k r.c r.f r.u s win x).u, r.told ++ [(checkV r.k r.c r.f r.u s win x).what]⟩) := by show _ = _; rw [playStep, hrl]
      have HRL := Lib.hid hrl
      clear hrl
      have HV : Hid ((checkV r.k r.c r.f r.u s win x).val = .tuple #[.agg #[.int .i64 (checkV r.k r.c r.f r.u s win x).k, .int .i64 (checkV r.k r.c r.f r.u s win x).c, .int .i64 (checkV r.k r.c r.f r.u s win x).f, .int .i64 (checkV r.k r.c r.f r.u s win x).u], .int .i64 (checkV r.k r.c r.f r.u s win x).what]) := rfl
      have HC : Hid (∀ W, tabOk W → Calls Tryd.prog 28 #[.agg #[.int .i64 r.k, .int .i64 r.c, .int .i64 r.f, .int .i64 r.u], .string s, .int .i64 win, .int .i64 x] W fun e w' => e = .returned (checkV r.k r.c r.f r.u s win x).val ∧ Below W.heap.size W w') := fun W ht => implCheckCode_any r.k r.c r.f r.u win x s W ht
      rw [HV.out] at HC
      generalize checkV r.k r.c r.f r.u s win x = q at *
      clear HV
      go_wp2_with fail
      refine (HC.out _ (ht.on (Hp.b (by repeat (first | (with_reducible exact H) | (with_reducible apply Hp.alloc) | (with_reducible apply Hp.set) | (with_reducible apply Hp.drew) | (with_reducible apply Hp.drewN) | (with_reducible apply Hp.bytesW) | (with_reducible exact Upd.here) | (with_reducible exact Upd.hereR) | (with_reducible apply Upd.there) | (with_reducible apply Sz.alloc) | (with_reducible apply Sz.set) | (with_reducible apply Sz.drew) | (with_reducible apply Sz.drewN) | (with_reducible apply Sz.bytesW) | (with_reducible assumption) | (with_reducible exact Sz.base _)))))).mono ?_
      rintro e w1 ⟨rfl, hb1⟩
      replace H := Hp.step (by repeat (first | (with_reducible exact H) | (with_reducible apply Hp.alloc) | (with_reducible apply Hp.set) | (with_reducible apply Hp.drew) | (with_reducible apply Hp.drewN) | (with_reducible apply Hp.bytesW) | (with_reducible exact Upd.here) | (with_reducible exact Upd.hereR) | (with_reducible apply Upd.there) | (with_reducible apply Sz.alloc) | (with_reducible apply Sz.set) | (with_reducible apply Sz.drew) | (with_reducible apply Sz.drewN) | (with_reducible apply Sz.bytesW) | (with_reducible assumption) | (with_reducible exact Sz.base _))) hb1; (try simp only [List.set_cons_zero, List.set_cons_succ, List.cons_append, List.nil_append] at H); clear hb1; clear F; have F := H.facts; simp only [Facts, NeF, box, row, reg, cellsF, rInt, ne_eq, true_and, and_true, Nat.reduceAdd, Nat.zero_add] at F
      go_wp2_with (at_builtin; refine wpList_append_lies _ (by rfl) _ _ 64 (by rfl) w.heap.size 3 i1 _ 1 _ Tryd.underlying64 hi1 hy0 hy1 hy2 (by rfl) (by decide) (.slice A' (r.told.length) c') (r.told.length) _ (by rfl) (Hp.rowM (by repeat (first | (with_reducible exact H) | (with_reducible apply Hp.alloc) | (with_reducible apply Hp.set) | (with_reducible apply Hp.drew) | (with_reducible apply Hp.drewN) | (with_reducible apply Hp.bytesW) | (with_reducible exact Upd.here) | (with_reducible exact Upd.hereR) | (with_reducible apply Upd.there) | (with_reducible apply Sz.alloc) | (with_reducible apply Sz.set) | (with_reducible apply Sz.drew) | (with_reducible apply Sz.drewN) | (with_reducible apply Sz.bytesW) | (with_reducible assumption) | (with_reducible exact Sz.base _))) (by repeat (first | (with_reducible exact List.mem_cons_self) | (with_reducible apply List.mem_cons_of_mem)))) ⟨w1.heap.size + 1, 0, none⟩ 1 1 (encInt q.what) (by rfl) (by rfl) (Hp.news (by repeat (first | (with_reducible exact H) | (with_reducible apply Hp.alloc) | (with_reducible apply Hp.set) | (with_reducible apply Hp.drew) | (with_reducible apply Hp.drewN) | (with_reducible apply Hp.bytesW) | (with_reducible exact Upd.here) | (with_reducible exact Upd.hereR) | (with_reducible apply Upd.there) | (with_reducible apply Sz.alloc) | (with_reducible apply Sz.set) | (with_reducible apply Sz.drew) | (with_reducible apply Sz.drewN) | (with_reducible apply Sz.bytesW) | (with_reducible assumption) | (with_reducible exact Sz.base _))) 0 (by rfl)) (oneInt q.what) (by decide) hl (by omega) (Hp.b (by repeat (first | (with_reducible exact H) | (with_reducible apply Hp.alloc) | (with_reducible apply Hp.set) | (with_reducible apply Hp.drew) | (with_reducible apply Hp.drewN) | (with_reducible apply Hp.bytesW) | (with_reducible exact Upd.here) | (with_reducible exact Upd.hereR) | (with_reducible apply Upd.there) | (with_reducible apply Sz.alloc) | (with_reducible apply Sz.set) | (with_reducible apply Sz.drew) | (with_reducible apply Sz.drewN) | (with_reducible apply Sz.bytesW) | (with_reducible assumption) | (with_reducible exact Sz.base _)))).size _ rfl ?_; intro g cap wa hown hgrow hat hlt1; have H5 := Hp.appM (by repeat (first | (with_reducible exact H) | (with_reducible apply Hp.alloc) | (with_reducible apply Hp.set) | (with_reducible apply Hp.drew) | (with_reducible apply Hp.drewN) | (with_reducible apply Hp.bytesW) | (with_reducible exact Upd.here) | (with_reducible exact Upd.hereR) | (with_reducible apply Upd.there) | (with_reducible apply Sz.alloc) | (with_reducible apply Sz.set) | (with_reducible apply Sz.drew) | (with_reducible apply Sz.drewN) | (with_reducible apply Sz.bytesW) | (with_reducible assumption) | (with_reducible exact Sz.base _))) (by repeat (first | (with_reducible exact Rep.here) | (with_reducible apply Rep.there))) hown hgrow hat rfl hlt1; (try simp only [List.set_cons_zero, List.set_cons_succ, List.cons_append, List.nil_append] at H5); have FA := H5.facts; simp only [Facts, NeF, box, row, reg, cellsF, rInt, ne_eq, true_and, and_true, Nat.reduceAdd, Nat.zero_add] at FA)
      rw [rInt_snoc] at H5
      go_roundw
      case rel => exact ⟨x + 1, by omega, by go_num, ⟨q.k, q.c, q.f, q.u, r.told ++ [q.what]⟩, by simp [HRL.out], Lib.hid (by rw [HN.out, HS.out]), some ⟨g, 0, none⟩, cap, by simp, Lib.hid (by refine Hp.sel (by repeat (first | (with_reducible exact H5) | (with_reducible apply Hp.alloc) | (with_reducible apply Hp.set) | (with_reducible apply Hp.drew) | (with_reducible apply Hp.drewN) | (with_reducible apply Hp.bytesW) | (with_reducible exact Upd.here) | (with_reducible exact Upd.hereR) | (with_reducible apply Upd.there) | (with_reducible apply Sz.alloc) | (with_reducible apply Sz.set) | (with_reducible apply Sz.drew) | (with_reducible apply Sz.drewN) | (with_reducible apply Sz.bytesW) | (with_reducible assumption) | (with_reducible exact Sz.base _))) ?_; (try simp only [List.set_cons_zero, List.set_cons_succ]); exact (by repeat (first | (with_reducible exact Sel.nil) | (with_reducible apply Sel.cons) | (with_reducible exact Del.here) | (with_reducible apply Del.there))))⟩
      case measure => simp [intOf]; omega
    · have HN : Hid (playR win ⟨k, c, f, u, []⟩ cs = r) := by show _ = _; rw [← HX.out, List.take_of_length_le (by omega)]
      clear HX
      go_wp2_with fail
      rw [HN.out]
      refine bodyPost_ret (v := .tuple #[.agg #[.int .i64 r.k, .int .i64 r.c, .int .i64 r.f, .int .i64 r.u], .slice A' r.told.length c']) (by simp [results, Tryd.results44, go_sem, F]) rfl ⟨A', c', rfl, (by refine Hp.sel (by repeat (first | (with_reducible exact H) | (with_reducible apply Hp.alloc) | (with_reducible apply Hp.set) | (with_reducible apply Hp.drew) | (with_reducible apply Hp.drewN) | (with_reducible apply Hp.bytesW) | (with_reducible exact Upd.here) | (with_reducible exact Upd.hereR) | (with_reducible apply Upd.there) | (with_reducible apply Sz.alloc) | (with_reducible apply Sz.set) | (with_reducible apply Sz.drew) | (with_reducible apply Sz.drewN) | (with_reducible apply Sz.bytesW) | (with_reducible assumption) | (with_reducible exact Sz.base _))) ?_; (try simp only [List.set_cons_zero, List.set_cons_succ]); exact (by repeat (first | (with_reducible exact Sel.nil) | (with_reducible apply Sel.cons) | (with_reducible exact Del.here) | (with_reducible apply Del.there))))⟩
end Go.Proofs.YtonbebacioocnaaDoor

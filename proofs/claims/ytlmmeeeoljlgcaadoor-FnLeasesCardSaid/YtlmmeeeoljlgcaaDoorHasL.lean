/- Leases: one that is there is found. No condition. -/
import Derived.Test.YtlmmeeeoljlgcaaDoorLeaseC
set_option linter.unusedVariables false
set_option linter.unusedSimpArgs false
namespace Go.Proofs.YtlmmeeeoljlgcaaDoor
open Go.RowKit
set_option linter.unusedVariables false
set_option linter.unusedSimpArgs false
theorem Hp.intoH {w0 w : World} {L R : List Ent} (H : Hp w0 w L) (h : Hp w0 w L → Hp w0 w R) : Hp w0 w R := h H
theorem lease_eq {x l : Lease} (b1 : x.id = l.id) (b2 : x.token = l.token) (b3 : x.path.toList = l.path.toList) (b4 : x.made = l.made) (b5 : x.ends = l.ends) (b6 : x.limit = l.limit) : x = l := by
  have b3 : x.path = l.path := eqB_iff.1 (by unfold eqB; rw [beq_iff_eq]; exact b3)
  cases x; cases l; simp_all
set_option maxHeartbeats 8000000 in
set_option maxRecDepth 10000 in
theorem hasLease_any (A : Option Addr) (n c : Nat) (us : List Lease) (l : Lease) (w : World) (hr : Rd w w.heap.size 6 A n c (us.flatMap encLease)) (hn : us.length = n) (hl : l ∈ us) :
    Calls Tryd.prog 22 #[.slice A n c, valLease l] w fun e w' => e = .returned (.bool true) ∧ Below w.heap.size w w' := by
  subst hn
  have hc := hr.2.1
  have hm := hr.2.2.1
  unfold maxLen at hm
  have h0 : 0 < us.length := List.length_pos_of_mem hl
  obtain ⟨b, off, rfl, hb⟩ := Rd.at encLease_len hr rfl h0
  have H := Hp.nil w
  have HL := Lib.hid hl; clear hl
  go_enter Tryd.func22, Tryd.ntmps22
  go_wp2_with fail
  have HH := Lib.hid H; clear H
  go_loopw [5] (fun i wr => ∃ k : Nat, k ≤ us.length ∧ i = .int .i64 k ∧ Hid (l ∈ us.drop k) ∧ Hid (Hp w wr [box w.heap.size 40 [.int .i64 l.id, .int .i64 l.token, .string l.path, .int .i64 l.made, .int .i64 l.ends, .int .i64 l.limit]])) (fun i _ => us.length - (intOf i).toNat)
  case atStart =>
    have H := HH.out
    exact ⟨0, Nat.zero_le _, rfl, HL, Lib.hid (by repeat (first | (with_reducible exact H) | (with_reducible apply Hp.alloc) | (with_reducible apply Hp.set) | (with_reducible apply Hp.drew) | (with_reducible apply Hp.drewN) | (with_reducible apply Hp.bytesW) | (with_reducible exact Upd.here) | (with_reducible exact Upd.hereR) | (with_reducible apply Upd.there) | (with_reducible apply Sz.alloc) | (with_reducible apply Sz.set) | (with_reducible apply Sz.drew) | (with_reducible apply Sz.drewN) | (with_reducible apply Sz.bytesW) | (with_reducible assumption) | (with_reducible exact Sz.base _)))⟩
  case round =>
    clear HH
    obtain ⟨k, hk, rfl, HA, HP⟩ := hrel
    have H := HP.out
    have F := H.facts; simp only [Facts, NeF, box, row, reg, cellsF, rLease, ne_eq, true_and, and_true, Nat.reduceAdd, Nat.zero_add] at F
    have hlt : k < us.length := by
      have h := HA.out
      rcases Nat.lt_or_ge k us.length with h1 | h1
      · exact h1
      · rw [List.drop_eq_nil_of_le h1] at h; cases h
    have hk1 : (k : Int) < (us.length : Int) := by omega
    have hk0 : (0 : Int) ≤ (k : Int) := by omega
    have hbw : b < wr.heap.size := Nat.lt_of_lt_of_le hb H.b.size
    obtain ⟨e0, e1, e2, e3, e4, e5⟩ := Rd.leaseAt hr rfl (k := k) hlt rfl wr H.b
    have HN : Hid (us[k] = l ∨ l ∈ us.drop (k + 1)) := by
      have h := HA.out
      rw [List.drop_eq_getElem_cons hlt] at h
      rcases List.mem_cons.1 h with h | h
      · exact .inl h.symm
      · exact .inr h
    generalize us[k] = x at *
    have HK1 : Hid (k + 1 ≤ us.length ∧ us.length - (k + 1) < us.length - k) := ⟨by omega, by omega⟩
    clear hlt HP HA
    by_cases hx : x = l
    · subst hx
      go_upto_region 4 with fail
      go_region
      go_wp2_with fail
      exact bodyPost_ret (v := .bool true) (by simp [results, Tryd.results22, go_sem, F]) rfl ⟨rfl, Hp.b (by repeat (first | (with_reducible exact H) | (with_reducible apply Hp.alloc) | (with_reducible apply Hp.set) | (with_reducible apply Hp.drew) | (with_reducible apply Hp.drewN) | (with_reducible apply Hp.bytesW) | (with_reducible exact Upd.here) | (with_reducible exact Upd.hereR) | (with_reducible apply Upd.there) | (with_reducible apply Sz.alloc) | (with_reducible apply Sz.set) | (with_reducible apply Sz.drew) | (with_reducible apply Sz.drewN) | (with_reducible apply Sz.bytesW) | (with_reducible assumption) | (with_reducible exact Sz.base _)))⟩
    · have HX : Hid (l ∈ us.drop (k + 1)) := HN.out.resolve_left hx
      clear HN
      have hne : ¬ x.id = l.id ∨ (x.id = l.id ∧ ¬ x.token = l.token) ∨ (x.id = l.id ∧ x.token = l.token ∧ ¬ x.path.toList = l.path.toList) ∨ (x.id = l.id ∧ x.token = l.token ∧ x.path.toList = l.path.toList ∧ ¬ x.made = l.made) ∨ (x.id = l.id ∧ x.token = l.token ∧ x.path.toList = l.path.toList ∧ x.made = l.made ∧ ¬ x.ends = l.ends) ∨ (x.id = l.id ∧ x.token = l.token ∧ x.path.toList = l.path.toList ∧ x.made = l.made ∧ x.ends = l.ends ∧ ¬ x.limit = l.limit) := by
        by_cases b1 : x.id = l.id
        · by_cases b2 : x.token = l.token
          · by_cases b3 : x.path.toList = l.path.toList
            · by_cases b4 : x.made = l.made
              · by_cases b5 : x.ends = l.ends
                · by_cases b6 : x.limit = l.limit
                  · exact absurd (lease_eq b1 b2 b3 b4 b5 b6) hx
                  · exact .inr (.inr (.inr (.inr (.inr ⟨b1, b2, b3, b4, b5, b6⟩))))
                · exact .inr (.inr (.inr (.inr (.inl ⟨b1, b2, b3, b4, b5⟩))))
              · exact .inr (.inr (.inr (.inl ⟨b1, b2, b3, b4⟩)))
            · exact .inr (.inr (.inl ⟨b1, b2, b3⟩))
          · exact .inr (.inl ⟨b1, b2⟩)
        · exact .inl b1
      clear hx
      rcases hne with b1 | ⟨b1, b2⟩ | ⟨b1, b2, b3⟩ | ⟨b1, b2, b3, b4⟩ | ⟨b1, b2, b3, b4, b5⟩ | ⟨b1, b2, b3, b4, b5, b6⟩
      all_goals
        go_upto_region 4 with fail
        go_region
        go_wp2_with fail
        go_roundw
        case rel => exact ⟨k + 1, HK1.out.1, by go_num, HX, Lib.hid (by repeat (first | (with_reducible exact H) | (with_reducible apply Hp.alloc) | (with_reducible apply Hp.set) | (with_reducible apply Hp.drew) | (with_reducible apply Hp.drewN) | (with_reducible apply Hp.bytesW) | (with_reducible exact Upd.here) | (with_reducible exact Upd.hereR) | (with_reducible apply Upd.there) | (with_reducible apply Sz.alloc) | (with_reducible apply Sz.set) | (with_reducible apply Sz.drew) | (with_reducible apply Sz.drewN) | (with_reducible apply Sz.bytesW) | (with_reducible assumption) | (with_reducible exact Sz.base _)))⟩
        case measure => have := HK1.out.2; simp [intOf]; omega
end Go.Proofs.YtlmmeeeoljlgcaaDoor

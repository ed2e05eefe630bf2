/- Where a user with a name stands (the reference's search). No condition. -/
import Derived.Test.YtaaloiloklnbiaaDoorMakeP
import Derived.Test.YtaaloiloklnbiaaDoorEnUser
import Derived.Test.YtaaloiloklnbiaaDoorDropP
namespace Go.Proofs.YtaaloiloklnbiaaDoor
open Go.RowKit
set_option linter.unusedVariables false
/-- The place of the first user with a name; -1 where there is none. -/
def atU : List User → ByteArray → Nat → Int
  | [], _, _ => -1
  | u :: us, s, k => if eqB u.name s then k else atU us s (k + 1)

theorem atU_skip {us : List User} {s : ByteArray} : ∀ {k j : Nat}, k < us.length → eqB (us[k]?.map (·.name) |>.getD ByteArray.empty) s = false → atU (us.drop k) s j = atU (us.drop (k + 1)) s (j + 1) := by
  intro k j hk h
  rw [List.drop_eq_getElem_cons hk, atU]
  rw [List.getElem?_eq_getElem hk] at h
  simp at h
  rw [h]; simp
theorem atU_hit {us : List User} {s : ByteArray} {k j : Nat} (hk : k < us.length) (h : eqB us[k].name s = true) : atU (us.drop k) s j = j := by
  rw [List.drop_eq_getElem_cons hk, atU, h]; simp

set_option maxHeartbeats 1000000 in
theorem l11At_any (A : Option Addr) (n c : Nat) (us : List User) (fail made : Int) (s : ByteArray) (w : World) (hr : Rd w w.heap.size 2 A n c (us.flatMap encUser)) (hn : us.length = n) :
    Calls Tryd.prog 47 #[.agg #[.slice A n c, .int .i64 fail, .int .i64 made], .string s] w fun e w' => e = .returned (.int .i64 (atU us s 0)) ∧ Below w.heap.size w w' := by
  have hc := hr.2.1
  have hm := hr.2.2.1
  unfold maxLen at hm
  go_enter Tryd.func47, Tryd.ntmps47
  go_wp2_with fail
  have hr1 := hr.alloc (.cells #[.slice A n c, .int .i64 fail, .int .i64 made] 26)
  have hB1 := below_alloc w (.cells #[.slice A n c, .int .i64 fail, .int .i64 made] 26)
  have hbx := Bx.new w 26 #[.slice A n c, .int .i64 fail, .int .i64 made]
  generalize w.alloc (.cells #[.slice A n c, .int .i64 fail, .int .i64 made] 26) = W at *
  have b0 : W.cell? ⟨w.heap.size, 0, none⟩ = some (.slice A n c) := hbx.cell 0
  go_loop [5] (fun i => ∃ k : Nat, k ≤ n ∧ i = .int .i64 k ∧ Hid (atU us s 0 = atU (us.drop k) s k)) (fun i => n - (intOf i).toNat)
  case atStart => exact ⟨0, Nat.zero_le _, rfl, rfl⟩
  case round =>
    obtain ⟨k, hk, rfl, HE⟩ := hrel
    by_cases hlt : k < n
    · obtain ⟨b, off, rfl, hb, hcell⟩ := hr1.elem encUser_len hn hlt
      have c0 := hcell 0 _ rfl
      simp only [Nat.add_zero] at c0
      cases he : eqB us[k].name s with
      | true =>
        have HN : Hid (atU us s 0 = k) := by show _ = _; rw [HE.out, atU_hit (by omega) he]
        clear hcell
        generalize us[k].name = t at c0 he
        unfold eqB at he
        go_wp2
        go_ret
        exact ⟨by rw [HN.out]; rfl, hB1⟩
      | false =>
        have HN : Hid (atU us s 0 = atU (us.drop (k + 1)) s (k + 1)) := by
          show _ = _
          rw [HE.out, atU_skip (by omega)]
          rw [List.getElem?_eq_getElem (by omega : k < us.length)]; simpa using he
        clear hcell
        generalize us[k].name = t at c0 he
        unfold eqB at he
        go_wp2
        go_round
        case rel => exact ⟨k + 1, by omega, by go_num, HN⟩
        case measure => simp [intOf]; omega
    · have HN : Hid (atU us s 0 = -1) := by
        show _ = _
        rw [HE.out, List.drop_eq_nil_of_le (by omega), atU]
      go_wp2
      go_ret
      exact ⟨by rw [HN.out]; rfl, hB1⟩

theorem atU_spec (us : List User) (s : ByteArray) : ∀ k : Nat, (atU us s k = -1 ∧ ∀ u ∈ us, eqB u.name s = false) ∨ ∃ i, ∃ h : i < us.length, atU us s k = ((k + i : Nat) : Int) ∧ eqB us[i].name s = true := by
  induction us with
  | nil => intro k; exact .inl ⟨rfl, fun _ h => by cases h⟩
  | cons u us ih =>
    intro k
    rw [atU]
    by_cases h : eqB u.name s = true
    · exact .inr ⟨0, by simp, by rw [if_pos h]; simp, h⟩
    · rw [if_neg h]
      rcases ih (k + 1) with ⟨h1, h2⟩ | ⟨i, hi, h1, h2⟩
      · exact .inl ⟨h1, fun x hx => (List.mem_cons.1 hx).elim (fun e => by rw [e]; exact Bool.eq_false_iff.2 h) (fun hx => h2 x hx)⟩
      · exact .inr ⟨i + 1, by simp; omega, by rw [h1]; congr 1; omega, by simpa using h2⟩
theorem at_hit {us : List User} {s : ByteArray} (h : bsHit (cfU s) us = true) : 0 ≤ atU us s 0 := by
  obtain ⟨hj, he⟩ := bsHit_at h
  rcases atU_spec us s 0 with ⟨h1, h2⟩ | ⟨i, hi, h1, h2⟩
  · have := h2 _ (List.getElem_mem hj)
    rw [he, eqB_iff.2 rfl] at this; cases this
  · rw [h1]; omega
theorem at_miss {us : List User} (hr : Rises (us.map (·.name))) {s : ByteArray} (h : bsHit (cfU s) us = false) : atU us s 0 < 0 := by
  have hk := keep_miss hr h
  rcases atU_spec us s 0 with ⟨h1, h2⟩ | ⟨i, hi, h1, h2⟩
  · rw [h1]; omega
  · exfalso
    unfold keepU at hk
    have := (List.filter_eq_self.1 hk) _ (List.getElem_mem hi)
    simp [h2] at this
end Go.Proofs.YtaaloiloklnbiaaDoor

/- Slices of ints: their rows as entries of a footprint, and the statements' own helpers over them. No condition. -/
import Derived.Test.YteimapjiidekoaaDoorHp
import Derived.Test.YteimapjiidekoaaDoorCore
import Derived.Deep.QuietTactic
import Derived.BigQuiet
import Derived.Deep.RegionWith
namespace Go.Proofs.YteimapjiidekoaaDoor
open Go.RowKit
set_option linter.unusedVariables false
set_option linter.unusedSimpArgs false
def encInt (x : Int) : List Value := [.int .i64 x]
theorem encInt_len (x : Int) : (encInt x).length = 1 := rfl
abbrev rInt (A : Option Addr) (c : Nat) (us : List Int) : Ent := row 3 1 (.slice A us.length c) us.length (us.flatMap encInt)
theorem rInt_snoc (A : Option Addr) (c : Nat) (us : List Int) (u : Int) : row 3 1 (.slice A (us.length + 1) c) (us.length + 1) (us.flatMap encInt ++ encInt u) = rInt A c (us ++ [u]) := by simp [rInt]
theorem oneInt (u : Int) : ∀ x ∈ encInt u, x.oneCell' = true := by intro x hx; simp [encInt] at hx; subst hx; rfl
theorem Tryd.infoInt : (Tryd.prog.info? 3).map (fun i => (i.zero, i.size, i.bytes)) = some (some (.int .i64 0), 1, 8) := by kernel_rfl
set_option maxHeartbeats 2000000 in
theorem eqIntS_any (A A' : Option Addr) (n c c' : Nat) (us : List Int) (w : World) (hr : Rd w w.heap.size 1 A n c (us.flatMap encInt)) (hr' : Rd w w.heap.size 1 A' n c' (us.flatMap encInt)) (hn : us.length = n) :
    Calls Tryd.prog 17 #[.slice A n c, .slice A' n c'] w fun e w' => e = .returned (.bool true) ∧ Below w.heap.size w w' := by
  have hc := hr.2.1
  have hm := hr.2.2.1
  have hc' := hr'.2.1
  unfold maxLen at hm
  go_enter Tryd.func17, Tryd.ntmps17
  go_wp2_with fail
  go_loopw [5] (fun i wr => ∃ k : Nat, k ≤ n ∧ i = .int .i64 k ∧ Below w.heap.size w wr) (fun i _ => n - (intOf i).toNat)
  case atStart => exact ⟨0, Nat.zero_le _, rfl, Below.refl _ _⟩
  case round =>
    obtain ⟨k, hk, rfl, HB⟩ := hrel
    by_cases hlt : k < n
    · obtain ⟨b, off, rfl, hb, hcell⟩ := hr.elem encInt_len hn hlt
      obtain ⟨b', off', rfl, hb', hcell'⟩ := hr'.elem encInt_len hn hlt
      have c0 := HB.cell (p := ⟨b, off + k * 1 + 0, none⟩) hb |>.trans (hcell 0 _ rfl)
      have e0 := HB.cell (p := ⟨b', off' + k * 1 + 0, none⟩) hb' |>.trans (hcell' 0 _ rfl)
      simp only [Nat.add_zero, Nat.mul_one] at c0 e0
      clear hcell hcell'
      generalize us[k] = u at *
      have hk1 : (k : Int) < (n : Int) := by omega
      have hk0 : (0 : Int) ≤ (k : Int) := by omega
      go_wp2_with fail
      try go_quiet (fail)
      all_goals
        go_wp2_with fail
        go_roundw
        case rel => exact ⟨k + 1, by omega, by go_num, by first | exact HB | exact below_drewN HB _⟩
        case measure => simp [intOf]; omega
    · go_wp2_with fail
      go_ret
      exact ⟨rfl, HB⟩
def marksInt (m n : Nat) : List Value := (List.range n).flatMap fun i => [.int .i64 ((m + i : Nat) : Int)]
theorem marksInt_len (m n : Nat) : (marksInt m n).length = n := by
  rw [marksInt, flat_len (fun i => [.int .i64 ((m + i : Nat) : Int)]) 1 (fun _ => rfl)]; simp
set_option maxHeartbeats 4000000 in
theorem markIntS_any (A : Option Addr) (n c m lo hi : Nat) (xs : List Value) (w : World) (h : Own w lo hi 3 1 (.slice A n c) n xs) (h0 : 0 < m) (hm : m + n * 1 ≤ 1125899906842624) :
    Calls Tryd.prog 19 #[.slice A n c, .int .i64 m] w fun e w' => e = .returned (.int .i64 ((m + n * 1 : Nat) : Int)) ∧ Own w' lo hi 3 1 (.slice A n c) n (marksInt m n) ∧ Chg w w' lo hi := by
  have hr := h.rd
  have hc := hr.2.1
  have hmx := hr.2.2.1
  unfold maxLen at hmx
  clear hr
  go_enter Tryd.func19, Tryd.ntmps19
  go_wp2_with fail
  go_loopw [1, 5] (fun l i wr => ∃ k : Nat, k ≤ n ∧ i = .int .i64 k ∧ l = .int .i64 ((m + k : Nat) : Int) ∧ Chg w wr lo hi ∧ ∃ cs, Own wr lo hi 3 1 (.slice A n c) n cs ∧ Hid (cs.take (k * 1) = ((List.range n).take k).flatMap fun i => [.int .i64 ((m + i : Nat) : Int)])) (fun _ i _ => n - (intOf i).toNat)
  case atStart => exact ⟨0, Nat.zero_le _, rfl, by simp, Chg.refl _ _ _, xs, h, by show _ = _; simp⟩
  case round =>
    clear h
    obtain ⟨k, hk, rfl, rfl, HC, cs, own0, HT⟩ := hrel
    by_cases hlt : k < n
    · obtain ⟨g, rfl, hg1, hg2⟩ := own0.at_ (by omega)
      have HT' : Hid ((setL cs (k * 1) [.int .i64 ((m + k : Nat) : Int)]).take ((k + 1) * 1) = ((List.range n).take (k + 1)).flatMap fun i => [.int .i64 ((m + i : Nat) : Int)]) := by
        have := take_flat (us := List.range n) (enc := fun i => [.int .i64 ((m + i : Nat) : Int)]) (fun _ => rfl) (i := k) (by simpa using hlt) (by exact HT.out) (by rw [own0.1.1]; simp)
        rw [List.getElem_range] at this
        exact this
      obtain ⟨v0, -, d0⟩ := own_cell own0.1 (j := k * 1) (by omega)
      have f0 := own0.1.frozenAt (k * 1)
      have own1 := own0.set_in (j := k * 1) (.int .i64 ((m + k : Nat) : Int))
      have HC1 := HC.set (b := g) (o := k * 1) (.inl ⟨hg1, hg2⟩) (.int .i64 ((m + k : Nat) : Int))
      simp only [Nat.mul_one] at d0 f0 HC1 own1 HT'
      have O1 := Lib.hid own1
      have O2 := Lib.hid HC1
      clear own1 HC1
      go_wp2
      go_roundw
      case rel => exact ⟨k + 1, by omega, by go_num, by go_num, by simpa using O2.out, _, by simpa using O1.out, by have h2 := HT'.out; simp only [setL, Nat.mul_one] at h2; show List.take ((k + 1) * 1) _ = _; rw [Nat.mul_one]; simpa using h2⟩
      case measure => simp [intOf]; omega
    · have HF : Hid (cs = marksInt m n) := by
        have h2 := HT.out
        rw [show k = n by omega] at h2
        exact take_flat_end (us := List.range n) (by simp) (by exact h2) own0.1.1
      have HK : Hid (k = n) := by show _ = _; omega
      go_wp2_with fail
      go_ret
      exact ⟨by rw [← HK.out]; simp, by rw [← HF.out]; exact own0, HC⟩
theorem markIntS_hp (A : Option Addr) (n c m : Nat) (mi : Int) (hmi : mi = (m : Int)) (xs : List Value) (w w0 : World) (L L' : List Ent) (H : Hp w0 w L) (hr : Rep L (row 3 1 (.slice A n c) n xs) (row 3 1 (.slice A n c) n (marksInt m n)) L') (h0 : 0 < m) (hm : m + n * 1 ≤ 1125899906842624) :
    Calls Tryd.prog 19 #[.slice A n c, .int .i64 mi] w fun e w' => e = .returned (.int .i64 ((m + n * 1 : Nat) : Int)) ∧ Hp w0 w' L' :=
  by subst hmi; exact (markIntS_any A n c m _ _ xs w (H.ownM hr.mem).1 h0 hm).mono fun e w' ⟨he, h, hc⟩ => ⟨he, H.chgM hr h hc⟩
set_option maxHeartbeats 2000000 in
theorem toIntS_hp (A : Option Addr) (c : Nat) (us : List Int) (w : World) (hr : Rd w w.heap.size 1 A us.length c (us.flatMap encInt)) (hb20 : us.length ≤ 1048576) :
    Calls Tryd.prog 14 #[.slice A us.length c] w fun e w' => ∃ A' c', e = .returned (.slice A' us.length c') ∧ Hp w w' [rInt A' c' us] := by
  obtain ⟨n, hn⟩ : ∃ n, us.length = n := ⟨_, rfl⟩
  unfold rInt
  rw [hn] at hr hb20 ⊢
  obtain ⟨i0, hi, hz0, hz1, hz2⟩ := info_parts Tryd.infoInt
  have hc := hr.2.1
  have hm := hr.2.2.1
  unfold maxLen at hm
  go_enter Tryd.func14, Tryd.ntmps14
  go_wp2_with (at_make; refine wpList_make_full _ rfl _ _ 25 rfl w.heap.size 3 i0 _ 1 Tryd.underlying25 hi hz0 hz1 _ _ _ _ n rfl rfl rfl rfl ?_ ?_ ?_ ?_; rotate_right; intro w1 hown hgrow)
  case refine_1 => rw [hz2]; omega
  case refine_2 => unfold maxLen; omega
  case refine_3 => exact Nat.le_refl _
  have HB1 : Below w.heap.size w w1 := (Below.refl _ _).grown hgrow (Nat.le_refl _) (fun k hk => by cases hk)
  generalize (madeCells (Value.cells (.int .i64 0)) (n * 1)).toList = cs0 at *
  clear hgrow
  go_loopw [4] (fun i wr => ∃ k : Nat, k ≤ n ∧ i = .int .i64 k ∧ Below w.heap.size w wr ∧ ∃ cs, wr.ownsRow w.heap.size 3 1 (.slice (some ⟨w.heap.size, 0, none⟩) n n) n cs ∧ Hid (cs.take (k * 1) = (us.take k).flatMap encInt)) (fun i _ => n - (intOf i).toNat)
  case atStart => exact ⟨0, Nat.zero_le _, rfl, HB1, cs0, hown, by show _ = _; simp⟩
  case round =>
    clear HB1 hown
    obtain ⟨k, hk, rfl, HB, cs, hown, HC⟩ := hrel
    by_cases hlt : k < n
    · obtain ⟨b, off, rfl, hb, hcell⟩ := hr.elem encInt_len hn hlt
      have c0 := HB.cell (p := ⟨b, off + k * 1 + 0, none⟩) (by omega) |>.trans (hcell 0 _ rfl)
      simp only [Nat.add_zero, Nat.mul_one] at c0
      have hz := HB.size
      have HT : Hid ((cs.set k (.int .i64 us[k])).take ((k + 1) * 1) = (us.take (k + 1)).flatMap encInt) := by
        have h := take_flat encInt_len (show k < us.length by omega) HC.out (by rw [hown.1, hn])
        rw [Nat.mul_one k] at h
        exact h
      obtain ⟨v0, hv0, d0⟩ := own_cell hown (j := k) (by omega)
      have f0 := hown.frozenAt k
      have hk1 : (k : Int) < (n : Int) := by omega
      have hk0 : (0 : Int) ≤ (k : Int) := by omega
      clear hcell
      generalize us[k] = u at *
      go_wp2_with fail
      go_roundw
      case rel => exact ⟨k + 1, by omega, by go_num, (HB.setCell (by simp) _), _, (hown.stored k (.int .i64 u)).1, HT⟩
      case measure => simp [intOf]; omega
    · have HF : Hid (cs = us.flatMap encInt) := by
        have h2 := HC.out
        rw [show k = n by omega] at h2
        exact take_flat_end hn h2 hown.1
      go_wp2_with fail
      go_ret
      exact ⟨_, _, rfl, Hp.ofOwn HB (Own.of (by rw [← HF.out]; exact hown)) (Nat.le_refl _)⟩
end Go.Proofs.YteimapjiidekoaaDoor

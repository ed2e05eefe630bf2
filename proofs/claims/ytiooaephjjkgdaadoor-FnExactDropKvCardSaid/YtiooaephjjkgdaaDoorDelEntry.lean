/- slices.Delete of one Entry. No condition. -/
import Derived.Test.YtiooaephjjkgdaaDoorKvC
import Derived.Test.YtiooaephjjkgdaaDoorDelKit
import Derived.Deep.RegionLaw
namespace Go.Proofs.YtiooaephjjkgdaaDoor
open Go.RowKit
set_option linter.unusedVariables false
theorem encEntry_one : ∀ us : List Entry, ∀ u ∈ us.flatMap encEntry, u.oneCell' = true := by
  intro us u hu
  obtain ⟨x, _, hx⟩ := List.mem_flatMap.1 hu
  exact oneEntry x u hx

set_option maxHeartbeats 4000000 in
set_option maxRecDepth 10000 in
theorem deleteEntry_any (g n c i lo hi : Nat) (us : List Entry) (w : World) (h : Own w lo hi 74 3 (.slice (some ⟨g, 0, none⟩) n c) n (us.flatMap encEntry)) (hn : us.length = n) (hin : i < n) :
    Calls Tryd.prog 60 #[.slice (some ⟨g, 0, none⟩) n c, .int .i64 i, .int .i64 ((i : Int) + 1)] w fun e w' => e = .returned (.slice (some ⟨g, 0, none⟩) (n - 1) c) ∧ Own w' lo hi 74 3 (.slice (some ⟨g, 0, none⟩) (n - 1) c) (n - 1) ((us.eraseIdx i).flatMap encEntry) ∧ Chg w w' lo hi := by
  obtain ⟨i0, hi0, hz0, hz1, hz2⟩ := info_parts Tryd.infoEntry
  obtain ⟨hnc, hcm⟩ := h.lenCap
  unfold maxLen at hcm
  have hg := h.lt g rfl
  have hl : (us.flatMap encEntry).length = n * 3 := h.1.1
  obtain ⟨news, hnews⟩ : ∃ news, news = (us.drop (i + 1)).flatMap encEntry := ⟨_, rfl⟩
  have hlen : news.length = (n - (i + 1)) * 3 := by rw [hnews, flat_len encEntry 3 encEntry_len, List.length_drop, hn]
  have hdrop : (us.flatMap encEntry).drop ((i + 1) * 3) = news := by
    have h2 : us.flatMap encEntry = (us.take (i + 1)).flatMap encEntry ++ news := by rw [hnews, ← List.flatMap_append, List.take_append_drop]
    have l5 : ((us.take (i + 1)).flatMap encEntry).length = (i + 1) * 3 := by rw [flat_len encEntry 3 encEntry_len, List.length_take, hn]; omega
    rw [h2, List.drop_append_of_le_length (by omega), List.drop_of_length_le (by omega), List.nil_append]
  have hget : ∀ t u, news[t]? = some u → w.cell? ⟨g, (i + 1) * 3 + t, none⟩ = some u := by
    intro t u hu
    refine h.cellAt ?_
    rw [← hdrop, List.getElem?_drop] at hu
    exact hu
  have hall : ∀ t, t < n * 3 → (w.cell? ⟨g, t, none⟩).isSome = true ∧ w.frozen? ⟨g, t, none⟩ = false := by
    intro t ht
    exact ⟨by rw [h.cellAt (List.getElem?_eq_getElem (by omega : t < (us.flatMap encEntry).length))]; rfl, h.1.frozenAt t⟩
  obtain ⟨A, hA, hsrc⟩ : ∃ A : Addr, (if c = i + 1 then some (⟨g, 0, none⟩ : Addr) else some ⟨g, (i + 1) * 3, none⟩) = some A ∧ Hid (∀ t u, news[t]? = some u → w.drew.cell? (A.add t) = some u) := by
    by_cases hc : c = i + 1
    · refine ⟨⟨g, 0, none⟩, by simp [hc], fun t u hu => ?_⟩
      have h0 : news.length = 0 := by rw [hlen]; omega
      rw [List.length_eq_zero_iff.1 h0] at hu
      simp at hu
    · refine ⟨⟨g, (i + 1) * 3, none⟩, by simp [hc], fun t u hu => ?_⟩
      rw [Addr.add_lit]
      exact hget t u hu
  have s1 : Hid (news.length = (n - (i + 1)) * 3) := hlen
  have s2 : Hid (∀ u ∈ news, u.oneCell' = true) := by
    intro u hu
    rw [hnews] at hu
    exact encEntry_one _ u hu
  have s3 : Hid (∀ t, t < news.length → (w.drew.cell? ⟨g, 0 + i * 3 + t, none⟩).isSome = true ∧ w.drew.frozen? ⟨g, 0 + i * 3 + t, none⟩ = false) := by
    intro t ht
    rw [hlen] at ht
    exact hall _ (by omega)
  obtain ⟨W1, hW1⟩ : ∃ W1, W1 = w.drew.setCells g (0 + i * 3) news := ⟨_, rfl⟩
  have own1 : Own W1 lo hi 74 3 (.slice (some ⟨g, 0, none⟩) n c) n (setL (us.flatMap encEntry) (i * 3) news) := by
    rw [hW1, Nat.zero_add]
    exact Own.setCells news _ _ _ h.drew
  have chg1 : Chg w W1 lo hi := by
    rw [hW1]
    exact Chg.setCells hg news _ _ _ (Chg.of_below (Below.refl _ _).drew)
  have hz : ∀ u ∈ [Value.string ByteArray.empty, Value.int .i64 0, Value.slice none 0 0], u.oneCell' = true := by intro u hu; simp only [List.mem_cons, List.not_mem_nil, or_false] at hu; rcases hu with rfl | rfl | rfl <;> rfl
  have hcl : ∀ ty, (Builtin.clear_ #[38] ty #[.slice (some ⟨g, (n - 1) * 3, none⟩) 1 (c - (n - 1))]).run Tryd.prog W1 = .ok (.tuple #[]) (W1.setCells g ((n - 1) * 3) [.string ByteArray.empty, .int .i64 0, .slice none 0 0]) := fun ty =>
    run_clear_one W1 38 74 ty _ _ Tryd.underlying38 Tryd.zeroValue74 rfl hz g ((n - 1) * 3) _
      (fun j hj => by rw [own1.cellAt (List.getElem?_eq_getElem (by rw [setL_len, hl]; simp at hj; omega : (n - 1) * 3 + j < (setL (us.flatMap encEntry) (i * 3) news).length))]; rfl)
      (fun j hj => own1.1.frozenAt _)
  have e1 : i + (n - (i + 1)) = n - 1 := by omega
  have e2 : n - (n - 1) = 1 := by omega
  replace hcl : ∀ ty, (Builtin.clear_ #[38] ty #[.slice (some ⟨g, (i + (n - (i + 1))) * 3, none⟩) (n - (i + (n - (i + 1)))) (c - (i + (n - (i + 1))))]).run Tryd.prog W1 = .ok (.tuple #[]) (W1.setCells g ((n - 1) * 3) [.string ByteArray.empty, .int .i64 0, .slice none 0 0]) := by
    rw [e1, e2]
    exact hcl
  have E1 := Lib.hid e1
  clear e1 e2
  have own2 := (Own.setCells [.string ByteArray.empty, .int .i64 0, .slice none 0 0] ((n - 1) * 3) W1 _ own1).cut (m := n - 1) (by omega)
  have chg2 := Chg.setCells hg [.string ByteArray.empty, .int .i64 0, .slice none 0 0] ((n - 1) * 3) _ _ chg1
  rw [hnews, del_flat encEntry_len hn hin _ rfl] at own2
  have R2 := Lib.hid own2
  have C2 := Lib.hid chg2
  have hW : Hid (W1 = w.drew.setCells g (0 + i * 3) news) := hW1
  have hic : i ≤ c := by omega
  have hjc : i + 1 ≤ c := by omega
  clear hW1 own1 chg1 own2 chg2 hall hget hdrop hnews hlen hz h hl
  have z1 : (0 : Int) ≤ (i : Int) + 1 := by omega
  have z2 : (i : Int) + 1 ≤ (n : Int) := by omega
  have z3 : (i : Int) + 1 ≤ (c : Int) := by omega
  have z4 : (i : Int) ≤ (c : Int) := by omega
  have z5 : (n : Int) ≤ (c : Int) := by omega
  go_enter Tryd.func60, Tryd.ntmps60
  go_wp2_with fail
  go_region_law (refine step_append_room (by rfl) (.tmp 22) (.tmp 25) 38 (by rfl) 74 i0 3 Tryd.underlying38 hi0 hz1 g 0 i c (by simp [Act.eval, Act.put]) A (n - (i + 1)) (c - (i + 1)) news (by simp [Act.eval, Act.put]) s1.out hsrc.out s2.out (by omega) s3.out ?_; rw [← hW.out])
  go_wp2
  go_ret
  exact ⟨by rw [E1.out]; rfl, R2.out, C2.out⟩
end Go.Proofs.YtiooaephjjkgdaaDoor

/- slices.Delete of one User. No condition. -/
import Derived.Test.YtnhdpcmnnjgdkaaSlUser
import Derived.Test.YtnhdpcmnnjgdkaaDelKit
import Derived.Deep.RegionLaw
set_option linter.unusedVariables false
set_option linter.unusedSimpArgs false
namespace Go.Proofs.Ytnhdpcmnnjgdkaa
open Go.RowKit
set_option linter.unusedVariables false

set_option maxHeartbeats 4000000 in
set_option maxRecDepth 10000 in
theorem deleteUser_any (g n c i lo hi : Nat) (us : List User) (w : World) (h : Own w lo hi 53 2 (.slice (some ⟨g, 0, none⟩) n c) n (us.flatMap encUser)) (hn : us.length = n) (hin : i < n) :
    Calls Try.prog 55 #[.slice (some ⟨g, 0, none⟩) n c, .int .i64 i, .int .i64 ((i : Int) + 1)] w fun e w' => e = .returned (.slice (some ⟨g, 0, none⟩) (n - 1) c) ∧ Own w' lo hi 53 2 (.slice (some ⟨g, 0, none⟩) (n - 1) c) (n - 1) ((us.eraseIdx i).flatMap encUser) ∧ Chg w w' lo hi := by
  obtain ⟨i0, hi0, hz0, hz1, hz2⟩ := info_parts Try.infoUser
  obtain ⟨hnc, hcm⟩ := h.lenCap
  unfold maxLen at hcm
  have hg := h.lt g rfl
  have hl : (us.flatMap encUser).length = n * 2 := h.1.1
  obtain ⟨news, hnews⟩ : ∃ news, news = (us.drop (i + 1)).flatMap encUser := ⟨_, rfl⟩
  have hlen : news.length = (n - (i + 1)) * 2 := by rw [hnews, flat_len encUser 2 encUser_len, List.length_drop, hn]
  have hdrop : (us.flatMap encUser).drop ((i + 1) * 2) = news := by
    have h2 : us.flatMap encUser = (us.take (i + 1)).flatMap encUser ++ news := by rw [hnews, ← List.flatMap_append, List.take_append_drop]
    have l5 : ((us.take (i + 1)).flatMap encUser).length = (i + 1) * 2 := by rw [flat_len encUser 2 encUser_len, List.length_take, hn]; omega
    rw [h2, List.drop_append_of_le_length (by omega), List.drop_of_length_le (by omega), List.nil_append]
  have hget : ∀ t u, news[t]? = some u → w.cell? ⟨g, (i + 1) * 2 + t, none⟩ = some u := by
    intro t u hu
    refine h.cellAt ?_
    rw [← hdrop, List.getElem?_drop] at hu
    exact hu
  have hall : ∀ t, t < n * 2 → (w.cell? ⟨g, t, none⟩).isSome = true ∧ w.frozen? ⟨g, t, none⟩ = false := by
    intro t ht
    exact ⟨by rw [h.cellAt (List.getElem?_eq_getElem (by omega : t < (us.flatMap encUser).length))]; rfl, h.1.frozenAt t⟩
  obtain ⟨A, hA, hsrc⟩ : ∃ A : Addr, (if c = i + 1 then some (⟨g, 0, none⟩ : Addr) else some ⟨g, (i + 1) * 2, none⟩) = some A ∧ Hid (∀ t u, news[t]? = some u → w.drew.cell? (A.add t) = some u) := by
    by_cases hc : c = i + 1
    · refine ⟨⟨g, 0, none⟩, by simp [hc], fun t u hu => ?_⟩
      have h0 : news.length = 0 := by rw [hlen]; omega
      rw [List.length_eq_zero_iff.1 h0] at hu
      simp at hu
    · refine ⟨⟨g, (i + 1) * 2, none⟩, by simp [hc], fun t u hu => ?_⟩
      rw [Addr.add_lit]
      exact hget t u hu
  have s1 : Hid (news.length = (n - (i + 1)) * 2) := hlen
  have s2 : Hid (∀ u ∈ news, u.oneCell' = true) := by
    intro u hu
    rw [hnews] at hu
    exact encUser_one _ u hu
  have s3 : Hid (∀ t, t < news.length → (w.drew.cell? ⟨g, 0 + i * 2 + t, none⟩).isSome = true ∧ w.drew.frozen? ⟨g, 0 + i * 2 + t, none⟩ = false) := by
    intro t ht
    rw [hlen] at ht
    exact hall _ (by omega)
  obtain ⟨W1, hW1⟩ : ∃ W1, W1 = w.drew.setCells g (0 + i * 2) news := ⟨_, rfl⟩
  have own1 : Own W1 lo hi 53 2 (.slice (some ⟨g, 0, none⟩) n c) n (setL (us.flatMap encUser) (i * 2) news) := by
    rw [hW1, Nat.zero_add]
    exact Own.setCells news _ _ _ h.drew
  have chg1 : Chg w W1 lo hi := by
    rw [hW1]
    exact Chg.setCells hg news _ _ _ (Chg.of_below (Below.refl _ _).drew)
  have hz : ∀ u ∈ [Value.string ByteArray.empty, Value.string ByteArray.empty], u.oneCell' = true := by intro u hu; simp at hu; subst hu; rfl
  have hcl : ∀ ty, (Builtin.clear_ #[27] ty #[.slice (some ⟨g, (n - 1) * 2, none⟩) 1 (c - (n - 1))]).run Try.prog W1 = .ok (.tuple #[]) (W1.setCells g ((n - 1) * 2) [.string ByteArray.empty, .string ByteArray.empty]) := fun ty =>
    run_clear_one W1 27 53 ty _ _ Try.underlying27 Try.zeroValue53 rfl hz g ((n - 1) * 2) _
      (fun j hj => by rw [own1.cellAt (List.getElem?_eq_getElem (by rw [setL_len, hl]; simp at hj; omega : (n - 1) * 2 + j < (setL (us.flatMap encUser) (i * 2) news).length))]; rfl)
      (fun j hj => own1.1.frozenAt _)
  have e1 : i + (n - (i + 1)) = n - 1 := by omega
  have e2 : n - (n - 1) = 1 := by omega
  replace hcl : ∀ ty, (Builtin.clear_ #[27] ty #[.slice (some ⟨g, (i + (n - (i + 1))) * 2, none⟩) (n - (i + (n - (i + 1)))) (c - (i + (n - (i + 1))))]).run Try.prog W1 = .ok (.tuple #[]) (W1.setCells g ((n - 1) * 2) [.string ByteArray.empty, .string ByteArray.empty]) := by
    rw [e1, e2]
    exact hcl
  have E1 := Lib.hid e1
  clear e1 e2
  have own2 := (Own.setCells [.string ByteArray.empty, .string ByteArray.empty] ((n - 1) * 2) W1 _ own1).cut (m := n - 1) (by omega)
  have chg2 := Chg.setCells hg [.string ByteArray.empty, .string ByteArray.empty] ((n - 1) * 2) _ _ chg1
  rw [hnews, del_flat encUser_len hn hin _ rfl] at own2
  have R2 := Lib.hid own2
  have C2 := Lib.hid chg2
  have hW : Hid (W1 = w.drew.setCells g (0 + i * 2) news) := hW1
  have hic : i ≤ c := by omega
  have hjc : i + 1 ≤ c := by omega
  clear hW1 own1 chg1 own2 chg2 hall hget hdrop hnews hlen hz h hl
  have z1 : (0 : Int) ≤ (i : Int) + 1 := by omega
  have z2 : (i : Int) + 1 ≤ (n : Int) := by omega
  have z3 : (i : Int) + 1 ≤ (c : Int) := by omega
  have z4 : (i : Int) ≤ (c : Int) := by omega
  have z5 : (n : Int) ≤ (c : Int) := by omega
  go_enter Try.func55, Try.ntmps55
  go_wp2_with fail
  go_region_law (refine step_append_room (by rfl) (.tmp 22) (.tmp 25) 27 (by rfl) 53 i0 2 Try.underlying27 hi0 hz1 g 0 i c (by simp [Act.eval, Act.put]) A (n - (i + 1)) (c - (i + 1)) news (by simp [Act.eval, Act.put]) s1.out hsrc.out s2.out (by omega) s3.out ?_; rw [← hW.out])
  go_wp2
  go_ret
  exact ⟨by rw [E1.out]; rfl, R2.out, C2.out⟩
end Go.Proofs.Ytnhdpcmnnjgdkaa

/- Stores with versions turned, up to where their memory lies. No condition. -/
import Derived.Test.YtklmcbabpncfmaaDoorKvJ
import Derived.Test.YtklmcbabpncfmaaDoorLwGetKv
namespace Go.Proofs.YtklmcbabpncfmaaDoor
open Go.RowKit
theorem ok_copy {us vs : List Entry} (h : vs.map plE = us.map plE) (h1 : ∀ u ∈ us, u.path.size ≤ maxLen) (h2 : ∀ u ∈ us, u.vs.length ≤ 1048576) (h3 : ∀ u ∈ us, ∀ v ∈ u.vs, v.data.length ≤ 1048576) :
    (∀ u ∈ vs, u.path.size ≤ maxLen) ∧ (∀ u ∈ vs, u.vs.length ≤ 1048576) ∧ (∀ u ∈ vs, ∀ v ∈ u.vs, v.data.length ≤ 1048576) := by
  have hm : ∀ v ∈ vs, ∃ u ∈ us, plE u = plE v := by
    intro v hv
    have h4 : plE v ∈ us.map plE := by rw [← h]; exact List.mem_map.2 ⟨v, hv, rfl⟩
    obtain ⟨u, hu, he⟩ := List.mem_map.1 h4
    exact ⟨u, hu, he⟩
  refine ⟨path_pl h h1, fun v hv => ?_, fun v hv x hx => ?_⟩
  · obtain ⟨u, hu, he⟩ := hm v hv
    have := congrArg (fun e => e.vs.length) he
    simp only [plE, List.length_map] at this
    rw [← this]; exact h2 u hu
  · obtain ⟨u, hu, he⟩ := hm v hv
    have h5 := congrArg (fun e => e.vs) he
    simp only [plE] at h5
    have h6 : plV x ∈ u.vs.map plV := by rw [h5]; exact List.mem_map.2 ⟨x, hx, rfl⟩
    obtain ⟨y, hy, e2⟩ := List.mem_map.1 h6
    have h7 := congrArg (fun v => v.data) e2
    have h8 : y.data = x.data := h7
    rw [← h8]; exact h3 u hu y hy
theorem cntV_chV (p : Nat → Bool) (what : Int) (vs : List Ver) : cntV (chV p (actV what) vs) ≤ cntV vs := by
  have h0 : ∀ v : Ver, (actV what v).data.length ≤ v.data.length := by
    intro v
    unfold actV
    split
    · simp [killV]
    · split
      · exact Nat.le_refl _
      · exact Nat.le_refl _
  have h : ∀ (vs : List Ver) (p : Nat → Bool), cntV (chV p (actV what) vs) ≤ cntV vs := by
    intro vs
    induction vs with
    | nil => intro p; exact Nat.le_refl _
    | cons v vs ih =>
      intro p
      have e : chV p (actV what) (v :: vs) = (if p 0 then actV what v else v) :: chV (fun j => p (j + 1)) (actV what) vs := by
        unfold chV; rw [List.mapIdx_cons]
      have h1 := ih (fun j => p (j + 1))
      have h2 : (if p 0 = true then actV what v else v).data.length ≤ v.data.length := by
        split
        · exact h0 v
        · exact Nat.le_refl _
      rw [e, cntV, cntV]; omega
  exact h vs p
theorem cntE_modify (ls : List Int) (what : Int) : ∀ (us : List Entry) (i : Nat), cntE (us.modify i (chE ls what)) ≤ cntE us
  | [], i => by simp [cntE]
  | u :: us, 0 => by
    rw [List.modify_zero_cons, cntE, cntE]
    have := cntV_chV (fun j => hasI ls (u.first + (j : Int))) what u.vs
    have e : (chE ls what u).vs = chV (fun j => hasI ls (u.first + (j : Int))) (actV what) u.vs := rfl
    rw [e]; omega
  | u :: us, i + 1 => by
    rw [List.modify_succ_cons, cntE, cntE]
    have := cntE_modify ls what us i
    omega
theorem eachK_pl {us vs : List Entry} (s : ByteArray) (ls : List Int) (what : Int) (h : vs.map plE = us.map plE) : (eachK vs s ls what).1.map plE = (eachK us s ls what).1.map plE ∧ (eachK vs s ls what).2 = (eachK us s ls what).2 := by
  have h1 := eachK_map us s ls what (ixP_plE s us 0) (storeOk_pl (mapE_idem us))
  have h2 := eachK_map vs s ls what (ixP_plE s vs 0) (storeOk_pl (mapE_idem vs))
  rw [h] at h2
  exact ⟨h2.1.symm.trans h1.1, h2.2.symm.trans h1.2⟩
theorem eachK_all (us : List Entry) (s : ByteArray) (ls : List Int) (what : Int) : ∃ rs rc, (∀ vs : List Entry, vs.map plE = us.map plE → (eachK vs s ls what).1.map plE = rs.map plE ∧ (eachK vs s ls what).2 = rc) ∧ cntE rs ≤ cntE us := by
  refine ⟨(eachK us s ls what).1, (eachK us s ls what).2, fun vs h => eachK_pl s ls what h, ?_⟩
  unfold eachK
  split
  · split
    · split
      · exact cntE_modify ls what us _
      · exact Nat.le_refl _
    · exact Nat.le_refl _
  · exact Nat.le_refl _
end Go.Proofs.YtklmcbabpncfmaaDoor

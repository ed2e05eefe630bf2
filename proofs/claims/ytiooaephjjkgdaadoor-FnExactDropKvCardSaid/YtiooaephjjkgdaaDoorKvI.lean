/- Stores that are answered, up to where their memory lies. No condition. -/
import Derived.Test.YtiooaephjjkgdaaDoorKvF
import Derived.Test.YtiooaephjjkgdaaDoorLwGetKv
namespace Go.Proofs.YtiooaephjjkgdaaDoor
open Go.RowKit
set_option linter.unusedVariables false
set_option linter.unusedSimpArgs false
theorem ok_copy {us vs : List Entry} (h : vs.map plE = us.map plE) (h1 : ∀ u ∈ us, u.path.size ≤ maxLen) (h2 : ∀ u ∈ us, u.vs.length ≤ 1048576) (h3 : ∀ u ∈ us, ∀ v ∈ u.vs, v.data.length ≤ 1048576) :
    (∀ u ∈ vs, u.path.size ≤ maxLen) ∧ (∀ u ∈ vs, u.vs.length ≤ 1048576) ∧ (∀ u ∈ vs, ∀ v ∈ u.vs, v.data.length ≤ 1048576) := by
  have hm : ∀ v ∈ vs, ∃ u ∈ us, plE u = plE v := by
    intro v hv
    have h4 : plE v ∈ us.map plE := by rw [← h]; exact List.mem_map.2 ⟨v, hv, rfl⟩
    obtain ⟨u, hu, he⟩ := List.mem_map.1 h4
    exact ⟨u, hu, he⟩
  refine ⟨path_pl h h1, fun v hv => ?_, fun v hv x hx => ?_⟩
  · obtain ⟨u, hu, he⟩ := hm v hv
    have := congrArg (fun e => e.vs.length) he
    simp only [plE, List.length_map] at this
    rw [← this]; exact h2 u hu
  · obtain ⟨u, hu, he⟩ := hm v hv
    have h5 := congrArg (fun e => e.vs) he
    simp only [plE] at h5
    have h6 : plV x ∈ u.vs.map plV := by rw [h5]; exact List.mem_map.2 ⟨x, hx, rfl⟩
    obtain ⟨y, hy, e2⟩ := List.mem_map.1 h6
    have h7 := congrArg (fun v => v.data) e2
    have h8 : y.data = x.data := h7
    rw [← h8]; exact h3 u hu y hy
theorem cntE_filter (p : Entry → Bool) (us : List Entry) : cntE (us.filter p) ≤ cntE us := by
  induction us with
  | nil => simp
  | cons a us ih =>
    rw [List.filter_cons]
    split
    · rw [cntE, cntE]; omega
    · rw [cntE]; omega
theorem dropK_map (us : List Entry) (s : ByteArray) : (dropK (us.map plE) s).1 = (dropK us s).1.map plE ∧ (dropK (us.map plE) s).2 = (dropK us s).2 := by
  unfold dropK
  rw [storeOk_pl (mapE_idem us), ixP_plE]
  split
  · split
    · refine ⟨?_, rfl⟩
      show (us.map plE).filter _ = (us.filter _).map plE
      rw [List.filter_map]; rfl
    · exact ⟨rfl, rfl⟩
  · exact ⟨rfl, rfl⟩
theorem dropK_pl {us vs : List Entry} (s : ByteArray) (h : vs.map plE = us.map plE) : (dropK vs s).1.map plE = (dropK us s).1.map plE ∧ (dropK vs s).2 = (dropK us s).2 := by
  have h1 := dropK_map us s
  have h2 := dropK_map vs s
  rw [h] at h2
  exact ⟨h2.1.symm.trans h1.1, h2.2.symm.trans h1.2⟩
theorem dropK_all (us : List Entry) (s : ByteArray) : ∃ rs rc, (∀ vs : List Entry, vs.map plE = us.map plE → (dropK vs s).1.map plE = rs.map plE ∧ (dropK vs s).2 = rc) ∧ cntE rs ≤ cntE us := by
  refine ⟨(dropK us s).1, (dropK us s).2, fun vs h => dropK_pl s h, ?_⟩
  unfold dropK
  split
  · split
    · exact cntE_filter _ us
    · exact Nat.le_refl _
  · exact Nat.le_refl _
theorem specDropKv_pl (A : Option Addr) (n c : Nat) (us : List Entry) (s : ByteArray) (rs : List Entry) (rc : Int) (w : World) (hdr : (dropK us s).1.map plE = rs.map plE ∧ (dropK us s).2 = rc) (hr : Rd w w.heap.size 3 A n c (us.flatMap encEntry)) (hn : us.length = n) (hb20 : n ≤ 1048576) (hsz : ∀ u ∈ us, u.path.size ≤ maxLen) (hd : ∀ u ∈ us, DE 0 w u) (hvl : ∀ u ∈ us, u.vs.length ≤ 1048576) (hdl : ∀ u ∈ us, ∀ v ∈ u.vs, v.data.length ≤ 1048576) :
    Calls Tryd.prog 27 #[.agg #[.slice A n c], .string s] w fun e w' => ∃ A' c', ∃ vs : List Entry, e = .returned (.tuple #[.agg #[.slice A' rs.length c'], .int .i64 rc]) ∧ vs.map plE = rs.map plE ∧ vs.length = rs.length ∧ Hp w w' [stoE A' c' rs.length vs] := by
  have hl : (dropK us s).1.length = rs.length := by have := congrArg List.length hdr.1; simpa using this
  refine (specDropKv_hp A n c us s (dropK us s).1 (dropK us s).2 w rfl hr hn hb20 hsz hd hvl hdl).mono ?_
  rintro e w' ⟨A', c', vs, rfl, h1, h2, h3⟩
  rw [hl] at h2 h3
  exact ⟨A', c', vs, by rw [hl, hdr.2], h1.trans hdr.1, h2, h3⟩
theorem implDropKv_pl (A : Option Addr) (n c : Nat) (us : List Entry) (s : ByteArray) (rs : List Entry) (rc : Int) (w : World) (hdr : (dropK us s).1.map plE = rs.map plE ∧ (dropK us s).2 = rc) (hr : Rd w w.heap.size 3 A n c (us.flatMap encEntry)) (hn : us.length = n) (hb20 : n ≤ 1048576) (hsz : ∀ u ∈ us, u.path.size ≤ maxLen) (hd : ∀ u ∈ us, DE 0 w u) (hvl : ∀ u ∈ us, u.vs.length ≤ 1048576) (hdl : ∀ u ∈ us, ∀ v ∈ u.vs, v.data.length ≤ 1048576) (hml : mlOk w) :
    Calls Tryd.prog 28 #[.agg #[.slice A n c], .string s] w fun e w' => ∃ A' c', ∃ vs : List Entry, e = .returned (.tuple #[.agg #[.slice A' rs.length c'], .int .i64 rc]) ∧ vs.map plE = rs.map plE ∧ vs.length = rs.length ∧ Hp w w' [stoE A' c' rs.length vs] := by
  have hl : (dropK us s).1.length = rs.length := by have := congrArg List.length hdr.1; simpa using this
  refine (implDropKv_hp A n c us s (dropK us s).1 (dropK us s).2 w rfl hr hn hb20 hsz hd hvl hdl hml).mono ?_
  rintro e w' ⟨A', c', vs, rfl, h1, h2, h3⟩
  rw [hl] at h2 h3
  exact ⟨A', c', vs, by rw [hl, hdr.2], h1.trans hdr.1, h2, h3⟩
end Go.Proofs.YtiooaephjjkgdaaDoor

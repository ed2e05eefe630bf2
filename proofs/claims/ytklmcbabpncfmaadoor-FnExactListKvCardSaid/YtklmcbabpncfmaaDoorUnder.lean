/- Paths below a prefix (the reference's and the program's). No condition. -/
import Derived.Test.YtklmcbabpncfmaaDoorM4
import Derived.Test.YtklmcbabpncfmaaDoorUnderP
namespace Go.Proofs.YtklmcbabpncfmaaDoor
open Go.RowKit
set_option linter.unusedVariables false
set_option linter.unusedSimpArgs false
theorem path_short {s : ByteArray} (h : pathF s = true) : s.size ≤ 120 := by
  cases hg : globF s with
  | false => rw [path_no hg] at h; cases h
  | true => simp [globF] at hg; exact hg.1
theorem under_no1 {p s : ByteArray} (h : pathF p = false) : underF p s = false := by rw [underF, h]; rfl
theorem under_no2 {p s : ByteArray} (h : pathF s = false) : underF p s = false := by rw [underF, h]; simp
theorem toListB (s : ByteArray) : s.toList = s.data.toList := ByteArray.toList_eq s
theorem under_prop {p s : ByteArray} (h1 : pathF p = true) (h2 : pathF s = true) : underF p s = true ↔ (s.toList = p.toList ∨ (p.size < s.size ∧ (s.extract 0 p.size).toList = p.toList ∧ s.data.toList[p.size]? = some 47)) := by
  rw [underF, h1, h2, Bool.true_and, Bool.true_and, under_iff]
  have e1 : p.data.toList.length = p.size := by simp
  have e2 : s.data.toList.length = s.size := by simp
  rw [e1, e2, toListB, toListB, toListB, ext_data, List.drop_zero, Nat.sub_zero]
set_option maxHeartbeats 4000000 in
set_option maxRecDepth 10000 in
theorem specUnder_any (p s : ByteArray) (w : World) (hp : p.size ≤ maxLen) (hs : s.size ≤ maxLen) :
    Calls Tryd.prog 50 #[.string p, .string s] w fun e w' => e = .returned (.bool (underF p s)) ∧ Below w.heap.size w w' := by
  have H := Hp.nil w
  cases h1 : pathF p with
  | false =>
    have HR : Hid (underF p s = false) := under_no1 h1
    go_enter Tryd.func50, Tryd.ntmps50
    go_wp2_with (go_at_call 36; refine (PathOk_any _ _ hp).mono ?_; rintro e w1 ⟨rfl, hb1⟩; rw [h1]; replace H := Hp.step (by repeat (first | (with_reducible exact H) | (with_reducible apply Hp.alloc) | (with_reducible apply Hp.set) | (with_reducible apply Hp.drew) | (with_reducible apply Hp.drewN) | (with_reducible apply Hp.bytesW) | (with_reducible exact Upd.here) | (with_reducible exact Upd.hereR) | (with_reducible apply Upd.there) | (with_reducible apply Sz.alloc) | (with_reducible apply Sz.set) | (with_reducible apply Sz.drew) | (with_reducible apply Sz.drewN) | (with_reducible apply Sz.bytesW) | (with_reducible assumption) | (with_reducible exact Sz.base _))) hb1; (try simp only [List.set_cons_zero, List.set_cons_succ, List.cons_append, List.nil_append] at H))
    go_ret
    exact ⟨by rw [HR.out]; rfl, Hp.b (by repeat (first | (with_reducible exact H) | (with_reducible apply Hp.alloc) | (with_reducible apply Hp.set) | (with_reducible apply Hp.drew) | (with_reducible apply Hp.drewN) | (with_reducible apply Hp.bytesW) | (with_reducible exact Upd.here) | (with_reducible exact Upd.hereR) | (with_reducible apply Upd.there) | (with_reducible apply Sz.alloc) | (with_reducible apply Sz.set) | (with_reducible apply Sz.drew) | (with_reducible apply Sz.drewN) | (with_reducible apply Sz.bytesW) | (with_reducible assumption) | (with_reducible exact Sz.base _)))⟩
  | true =>
  cases h2 : pathF s with
  | false =>
    have HR : Hid (underF p s = false) := under_no2 h2
    go_enter Tryd.func50, Tryd.ntmps50
    go_wp2_with (go_at_call 36; refine (PathOk_any _ _ (by first | (with_reducible exact hp) | (with_reducible exact hs))).mono ?_; rintro e w1 ⟨rfl, hb1⟩; (first | rw [h1] | rw [h2]); replace H := Hp.step (by repeat (first | (with_reducible exact H) | (with_reducible apply Hp.alloc) | (with_reducible apply Hp.set) | (with_reducible apply Hp.drew) | (with_reducible apply Hp.drewN) | (with_reducible apply Hp.bytesW) | (with_reducible exact Upd.here) | (with_reducible exact Upd.hereR) | (with_reducible apply Upd.there) | (with_reducible apply Sz.alloc) | (with_reducible apply Sz.set) | (with_reducible apply Sz.drew) | (with_reducible apply Sz.drewN) | (with_reducible apply Sz.bytesW) | (with_reducible assumption) | (with_reducible exact Sz.base _))) hb1; (try simp only [List.set_cons_zero, List.set_cons_succ, List.cons_append, List.nil_append] at H))
    go_ret
    exact ⟨by rw [HR.out]; rfl, Hp.b (by repeat (first | (with_reducible exact H) | (with_reducible apply Hp.alloc) | (with_reducible apply Hp.set) | (with_reducible apply Hp.drew) | (with_reducible apply Hp.drewN) | (with_reducible apply Hp.bytesW) | (with_reducible exact Upd.here) | (with_reducible exact Upd.hereR) | (with_reducible apply Upd.there) | (with_reducible apply Sz.alloc) | (with_reducible apply Sz.set) | (with_reducible apply Sz.drew) | (with_reducible apply Sz.drewN) | (with_reducible apply Sz.bytesW) | (with_reducible assumption) | (with_reducible exact Sz.base _)))⟩
  | true =>
  have hu := under_prop h1 h2
  have k1 := path_short h1
  have k2 := path_short h2
  by_cases h3 : s.size < p.size
  · have HR : Hid (underF p s = false) := by
      show _ = _
      rw [← Bool.not_eq_true, hu]
      rintro (e | ⟨e, _⟩)
      · have := congrArg List.length e; rw [toListB, toListB] at this; simp at this; omega
      · omega
    clear hu
    go_enter Tryd.func50, Tryd.ntmps50
    go_wp2_with (go_at_call 36; refine (PathOk_any _ _ (by first | (with_reducible exact hp) | (with_reducible exact hs))).mono ?_; rintro e w1 ⟨rfl, hb1⟩; (first | rw [h1] | rw [h2]); replace H := Hp.step (by repeat (first | (with_reducible exact H) | (with_reducible apply Hp.alloc) | (with_reducible apply Hp.set) | (with_reducible apply Hp.drew) | (with_reducible apply Hp.drewN) | (with_reducible apply Hp.bytesW) | (with_reducible exact Upd.here) | (with_reducible exact Upd.hereR) | (with_reducible apply Upd.there) | (with_reducible apply Sz.alloc) | (with_reducible apply Sz.set) | (with_reducible apply Sz.drew) | (with_reducible apply Sz.drewN) | (with_reducible apply Sz.bytesW) | (with_reducible assumption) | (with_reducible exact Sz.base _))) hb1; (try simp only [List.set_cons_zero, List.set_cons_succ, List.cons_append, List.nil_append] at H))
    go_ret
    exact ⟨by rw [HR.out]; first | rfl | (simp; omega), Hp.b (by repeat (first | (with_reducible exact H) | (with_reducible apply Hp.alloc) | (with_reducible apply Hp.set) | (with_reducible apply Hp.drew) | (with_reducible apply Hp.drewN) | (with_reducible apply Hp.bytesW) | (with_reducible exact Upd.here) | (with_reducible exact Upd.hereR) | (with_reducible apply Upd.there) | (with_reducible apply Sz.alloc) | (with_reducible apply Sz.set) | (with_reducible apply Sz.drew) | (with_reducible apply Sz.drewN) | (with_reducible apply Sz.bytesW) | (with_reducible assumption) | (with_reducible exact Sz.base _)))⟩
  cases h4 : (s.toList == p.toList) with
  | true =>
    have HR : Hid (underF p s = true) := hu.2 (.inl (by simpa using h4))
    clear hu
    go_enter Tryd.func50, Tryd.ntmps50
    go_wp2_with (go_at_call 36; refine (PathOk_any _ _ (by first | (with_reducible exact hp) | (with_reducible exact hs))).mono ?_; rintro e w1 ⟨rfl, hb1⟩; (first | rw [h1] | rw [h2]); replace H := Hp.step (by repeat (first | (with_reducible exact H) | (with_reducible apply Hp.alloc) | (with_reducible apply Hp.set) | (with_reducible apply Hp.drew) | (with_reducible apply Hp.drewN) | (with_reducible apply Hp.bytesW) | (with_reducible exact Upd.here) | (with_reducible exact Upd.hereR) | (with_reducible apply Upd.there) | (with_reducible apply Sz.alloc) | (with_reducible apply Sz.set) | (with_reducible apply Sz.drew) | (with_reducible apply Sz.drewN) | (with_reducible apply Sz.bytesW) | (with_reducible assumption) | (with_reducible exact Sz.base _))) hb1; (try simp only [List.set_cons_zero, List.set_cons_succ, List.cons_append, List.nil_append] at H))
    go_ret
    exact ⟨by rw [HR.out]; first | rfl | (simp; omega), Hp.b (by repeat (first | (with_reducible exact H) | (with_reducible apply Hp.alloc) | (with_reducible apply Hp.set) | (with_reducible apply Hp.drew) | (with_reducible apply Hp.drewN) | (with_reducible apply Hp.bytesW) | (with_reducible exact Upd.here) | (with_reducible exact Upd.hereR) | (with_reducible apply Upd.there) | (with_reducible apply Sz.alloc) | (with_reducible apply Sz.set) | (with_reducible apply Sz.drew) | (with_reducible apply Sz.drewN) | (with_reducible apply Sz.bytesW) | (with_reducible assumption) | (with_reducible exact Sz.base _)))⟩
  | false =>
  have h4n : ¬ s.toList = p.toList := by simpa using h4
  by_cases h5 : p.size < s.size
  case neg =>
    have HR : Hid (underF p s = false) := by
      show _ = _
      rw [← Bool.not_eq_true, hu]
      rintro (e | ⟨e, _⟩)
      · exact h4n e
      · exact h5 e
    clear hu h4n
    go_enter Tryd.func50, Tryd.ntmps50
    go_wp2_with (go_at_call 36; refine (PathOk_any _ _ (by first | (with_reducible exact hp) | (with_reducible exact hs))).mono ?_; rintro e w1 ⟨rfl, hb1⟩; (first | rw [h1] | rw [h2]); replace H := Hp.step (by repeat (first | (with_reducible exact H) | (with_reducible apply Hp.alloc) | (with_reducible apply Hp.set) | (with_reducible apply Hp.drew) | (with_reducible apply Hp.drewN) | (with_reducible apply Hp.bytesW) | (with_reducible exact Upd.here) | (with_reducible exact Upd.hereR) | (with_reducible apply Upd.there) | (with_reducible apply Sz.alloc) | (with_reducible apply Sz.set) | (with_reducible apply Sz.drew) | (with_reducible apply Sz.drewN) | (with_reducible apply Sz.bytesW) | (with_reducible assumption) | (with_reducible exact Sz.base _))) hb1; (try simp only [List.set_cons_zero, List.set_cons_succ, List.cons_append, List.nil_append] at H))
    go_ret
    exact ⟨by rw [HR.out]; first | rfl | (simp; omega), Hp.b (by repeat (first | (with_reducible exact H) | (with_reducible apply Hp.alloc) | (with_reducible apply Hp.set) | (with_reducible apply Hp.drew) | (with_reducible apply Hp.drewN) | (with_reducible apply Hp.bytesW) | (with_reducible exact Upd.here) | (with_reducible exact Upd.hereR) | (with_reducible apply Upd.there) | (with_reducible apply Sz.alloc) | (with_reducible apply Sz.set) | (with_reducible apply Sz.drew) | (with_reducible apply Sz.drewN) | (with_reducible apply Sz.bytesW) | (with_reducible assumption) | (with_reducible exact Sz.base _)))⟩
  cases h6 : ((s.extract 0 p.size).toList == p.toList) with
  | false =>
    have HR : Hid (underF p s = false) := by
      show _ = _
      rw [← Bool.not_eq_true, hu]
      rintro (e | ⟨_, e, _⟩)
      · exact h4n e
      · rw [e] at h6; simp at h6
    clear hu h4n
    go_enter Tryd.func50, Tryd.ntmps50
    go_wp2_with (go_at_call 36; refine (PathOk_any _ _ (by first | (with_reducible exact hp) | (with_reducible exact hs))).mono ?_; rintro e w1 ⟨rfl, hb1⟩; (first | rw [h1] | rw [h2]); replace H := Hp.step (by repeat (first | (with_reducible exact H) | (with_reducible apply Hp.alloc) | (with_reducible apply Hp.set) | (with_reducible apply Hp.drew) | (with_reducible apply Hp.drewN) | (with_reducible apply Hp.bytesW) | (with_reducible exact Upd.here) | (with_reducible exact Upd.hereR) | (with_reducible apply Upd.there) | (with_reducible apply Sz.alloc) | (with_reducible apply Sz.set) | (with_reducible apply Sz.drew) | (with_reducible apply Sz.drewN) | (with_reducible apply Sz.bytesW) | (with_reducible assumption) | (with_reducible exact Sz.base _))) hb1; (try simp only [List.set_cons_zero, List.set_cons_succ, List.cons_append, List.nil_append] at H))
    go_ret
    exact ⟨by rw [HR.out]; first | rfl | (simp; omega), Hp.b (by repeat (first | (with_reducible exact H) | (with_reducible apply Hp.alloc) | (with_reducible apply Hp.set) | (with_reducible apply Hp.drew) | (with_reducible apply Hp.drewN) | (with_reducible apply Hp.bytesW) | (with_reducible exact Upd.here) | (with_reducible exact Upd.hereR) | (with_reducible apply Upd.there) | (with_reducible apply Sz.alloc) | (with_reducible apply Sz.set) | (with_reducible apply Sz.drew) | (with_reducible apply Sz.drewN) | (with_reducible apply Sz.bytesW) | (with_reducible assumption) | (with_reducible exact Sz.base _)))⟩
  | true =>
  have hg : s.data.toList[p.size]? = some (s[p.size]) := by
    rw [List.getElem?_eq_getElem (by simpa using h5)]; rfl
  by_cases h7 : (s[p.size].toNat : Int) = 47
  · have HR : Hid (underF p s = true) := hu.2 (.inr ⟨h5, by simpa using h6, by rw [hg]; congr 1; exact UInt8.toNat_inj.1 (by show _ = 47; omega)⟩)
    clear hu h4n hg
    go_enter Tryd.func50, Tryd.ntmps50
    go_wp2_with (go_at_call 36; refine (PathOk_any _ _ (by first | (with_reducible exact hp) | (with_reducible exact hs))).mono ?_; rintro e w1 ⟨rfl, hb1⟩; (first | rw [h1] | rw [h2]); replace H := Hp.step (by repeat (first | (with_reducible exact H) | (with_reducible apply Hp.alloc) | (with_reducible apply Hp.set) | (with_reducible apply Hp.drew) | (with_reducible apply Hp.drewN) | (with_reducible apply Hp.bytesW) | (with_reducible exact Upd.here) | (with_reducible exact Upd.hereR) | (with_reducible apply Upd.there) | (with_reducible apply Sz.alloc) | (with_reducible apply Sz.set) | (with_reducible apply Sz.drew) | (with_reducible apply Sz.drewN) | (with_reducible apply Sz.bytesW) | (with_reducible assumption) | (with_reducible exact Sz.base _))) hb1; (try simp only [List.set_cons_zero, List.set_cons_succ, List.cons_append, List.nil_append] at H))
    go_ret
    exact ⟨by rw [HR.out]; first | rfl | (simp; omega), Hp.b (by repeat (first | (with_reducible exact H) | (with_reducible apply Hp.alloc) | (with_reducible apply Hp.set) | (with_reducible apply Hp.drew) | (with_reducible apply Hp.drewN) | (with_reducible apply Hp.bytesW) | (with_reducible exact Upd.here) | (with_reducible exact Upd.hereR) | (with_reducible apply Upd.there) | (with_reducible apply Sz.alloc) | (with_reducible apply Sz.set) | (with_reducible apply Sz.drew) | (with_reducible apply Sz.drewN) | (with_reducible apply Sz.bytesW) | (with_reducible assumption) | (with_reducible exact Sz.base _)))⟩
  · have HR : Hid (underF p s = false) := by
      show _ = _
      rw [← Bool.not_eq_true, hu]
      rintro (e | ⟨_, _, e⟩)
      · exact h4n e
      · rw [hg] at e
        have e : s[p.size] = 47 := by simpa using e
        rw [e] at h7
        exact h7 rfl
    clear hu h4n hg
    go_enter Tryd.func50, Tryd.ntmps50
    go_wp2_with (go_at_call 36; refine (PathOk_any _ _ (by first | (with_reducible exact hp) | (with_reducible exact hs))).mono ?_; rintro e w1 ⟨rfl, hb1⟩; (first | rw [h1] | rw [h2]); replace H := Hp.step (by repeat (first | (with_reducible exact H) | (with_reducible apply Hp.alloc) | (with_reducible apply Hp.set) | (with_reducible apply Hp.drew) | (with_reducible apply Hp.drewN) | (with_reducible apply Hp.bytesW) | (with_reducible exact Upd.here) | (with_reducible exact Upd.hereR) | (with_reducible apply Upd.there) | (with_reducible apply Sz.alloc) | (with_reducible apply Sz.set) | (with_reducible apply Sz.drew) | (with_reducible apply Sz.drewN) | (with_reducible apply Sz.bytesW) | (with_reducible assumption) | (with_reducible exact Sz.base _))) hb1; (try simp only [List.set_cons_zero, List.set_cons_succ, List.cons_append, List.nil_append] at H))
    go_ret
    exact ⟨by rw [HR.out]; first | rfl | (simp; omega), Hp.b (by repeat (first | (with_reducible exact H) | (with_reducible apply Hp.alloc) | (with_reducible apply Hp.set) | (with_reducible apply Hp.drew) | (with_reducible apply Hp.drewN) | (with_reducible apply Hp.bytesW) | (with_reducible exact Upd.here) | (with_reducible exact Upd.hereR) | (with_reducible apply Upd.there) | (with_reducible apply Sz.alloc) | (with_reducible apply Sz.set) | (with_reducible apply Sz.drew) | (with_reducible apply Sz.drewN) | (with_reducible apply Sz.bytesW) | (with_reducible assumption) | (with_reducible exact Sz.base _)))⟩
end Go.Proofs.YtklmcbabpncfmaaDoor

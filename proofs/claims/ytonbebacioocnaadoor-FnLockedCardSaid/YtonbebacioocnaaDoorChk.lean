/- Checks of a code: the walks. No condition. -/
import Derived.Test.YtonbebacioocnaaDoorChkP
import Derived.Test.YtonbebacioocnaaDoorCode
import Derived.Test.YtonbebacioocnaaDoorDev
import Derived.Deep.RegionWith
namespace Go.Proofs.YtonbebacioocnaaDoor
open Go.RowKit
set_option linter.unusedVariables false
set_option linter.unusedSimpArgs false
theorem l13Least_any (a b : Int) (w : World) :
    Calls Tryd.prog 72 #[.int .i64 a, .int .i64 b] w fun e w' => e = .returned (.int .i64 (leastI a b)) ∧ w = w' := by
  by_cases h : a < b
  · go_enter Tryd.func72, Tryd.ntmps72
    go_wp2
    go_ret
    exact ⟨by rw [leastI, if_pos h]; rfl, rfl⟩
  · have HL : Hid (leastI a b = b) := by show _ = _; rw [leastI, if_neg h]
    go_enter Tryd.func72, Tryd.ntmps72
    go_wp2
    go_ret
    exact ⟨by rw [HL.out]; rfl, rfl⟩
theorem wrong_cases (f til now : Int) : (1000 < f + 1 ∧ wrongFails f = 1000 ∧ wrongTil f til now = now + 4096) ∨ (¬ 1000 < f + 1 ∧ wrongFails f = f + 1 ∧ ((¬ 3 ≤ f + 1 ∧ wrongTil f til now = til) ∨ (3 ≤ f + 1 ∧ ¬ f + 1 - 3 < 12 ∧ wrongTil f til now = now + 4096) ∨ (3 ≤ f + 1 ∧ f + 1 - 3 < 12 ∧ wrongTil f til now = now + 2 ^ (f + 1 - 3).toNat))) := by
  by_cases h1 : 1000 < f + 1
  · have e : wrongFails f = 1000 := by rw [wrongFails, if_pos h1]
    refine .inl ⟨h1, e, ?_⟩
    rw [wrongTil, e, waitOf, if_pos (by omega), if_neg (by omega)]
  · have e : wrongFails f = f + 1 := by rw [wrongFails, if_neg h1]
    refine .inr ⟨h1, e, ?_⟩
    rw [wrongTil, e, waitOf]
    by_cases h2 : 3 ≤ f + 1
    · by_cases h3 : f + 1 - 3 < 12
      · exact .inr (.inr ⟨h2, h3, by rw [if_pos h2, if_pos h3]⟩)
      · exact .inr (.inl ⟨h2, h3, by rw [if_pos h2, if_neg h3]⟩)
    · exact .inl ⟨h2, by rw [if_neg h2]⟩
theorem wrongM (f : Int) : min (f + 1) 1000 = wrongFails f := by
  unfold wrongFails
  split <;> omega
theorem wrongT {f now : Int} (u : Int) (h : 3 ≤ min (f + 1) 1000) (hn : 0 ≤ now ∧ now ≤ 1000000000) : wrap64 (now + wrap64 (2 ^ (min 12 (min (f + 1) 1000 - 3)).toNat)) = wrongTil f u now := by
  rw [wrongM] at h ⊢
  rw [wrongTil, if_pos h, waitOf]
  have h3 : 3 ≤ wrongFails f := h
  generalize wrongFails f = g at *
  split
  · rename_i h4
    obtain ⟨h5, h6⟩ := pow_wait h3 h4
    rw [show min 12 (g - 3) = g - 3 by omega]
    generalize (2 : Int) ^ (g - 3).toNat = p at *
    unfold wrap64; omega
  · rw [show min 12 (g - 3) = 12 by omega]
    show wrap64 (now + wrap64 4096) = _
    unfold wrap64; omega
theorem wrongT' {f now u : Int} (h : min (f + 1) 1000 < 3) : u = wrongTil f u now := by
  rw [wrongM] at h
  rw [wrongTil, if_neg (by omega)]
set_option maxHeartbeats 2000000 in
theorem wrongCode_any (k c f u now : Int) (w : World) (hf : 0 ≤ f ∧ f ≤ 1000) (hn : 0 ≤ now ∧ now ≤ 1000000000) :
    Calls Tryd.prog 75 #[.agg #[.int .i64 k, .int .i64 c, .int .i64 f, .int .i64 u], .int .i64 now] w fun e w' => e = .returned (wrongC k c f u now).dev ∧ Below w.heap.size w w' := by
  have H := Hp.nil w
  have HM := Lib.hid (wrongM f)
  by_cases h : 3 ≤ min (f + 1) 1000
  · have HT := Lib.hid (wrongT u h hn)
    go_enter Tryd.func75, Tryd.ntmps75
    go_wp2_with fail
    refine bodyPost_ret (v := (wrongC k c f u now).dev) (by simp [results, Tryd.results75, go_sem, wrongC, Chk.dev]; exact ⟨HM.out, HT.out⟩) rfl ⟨rfl, Hp.b (by repeat (first | (with_reducible exact H) | (with_reducible apply Hp.alloc) | (with_reducible apply Hp.set) | (with_reducible apply Hp.drew) | (with_reducible apply Hp.drewN) | (with_reducible apply Hp.bytesW) | (with_reducible exact Upd.here) | (with_reducible exact Upd.hereR) | (with_reducible apply Upd.there) | (with_reducible apply Sz.alloc) | (with_reducible apply Sz.set) | (with_reducible apply Sz.drew) | (with_reducible apply Sz.drewN) | (with_reducible apply Sz.bytesW) | (with_reducible assumption) | (with_reducible exact Sz.base _)))⟩
  · replace h : min (f + 1) 1000 < 3 := by omega
    have HT := Lib.hid (wrongT' (now := now) (u := u) h)
    go_enter Tryd.func75, Tryd.ntmps75
    go_wp2_with fail
    refine bodyPost_ret (v := (wrongC k c f u now).dev) (by simp [results, Tryd.results75, go_sem, wrongC, Chk.dev]; exact ⟨HM.out, HT.out⟩) rfl ⟨rfl, Hp.b (by repeat (first | (with_reducible exact H) | (with_reducible apply Hp.alloc) | (with_reducible apply Hp.set) | (with_reducible apply Hp.drew) | (with_reducible apply Hp.drewN) | (with_reducible apply Hp.bytesW) | (with_reducible exact Upd.here) | (with_reducible exact Upd.hereR) | (with_reducible apply Upd.there) | (with_reducible apply Sz.alloc) | (with_reducible apply Sz.set) | (with_reducible apply Sz.drew) | (with_reducible apply Sz.drewN) | (with_reducible apply Sz.bytesW) | (with_reducible assumption) | (with_reducible exact Sz.base _)))⟩
theorem leastM (f : Int) : leastI 1000 (f + 1) = wrongFails f := by
  unfold wrongFails leastI
  rfl
theorem wrongB {f : Int} (hf : 0 ≤ f ∧ f ≤ 1000) : 1 ≤ wrongFails f ∧ wrongFails f ≤ 1000 := by
  unfold wrongFails
  split <;> omega
set_option maxHeartbeats 2000000 in
theorem l13Wrong_any (k c f u now : Int) (w : World) (hf : 0 ≤ f ∧ f ≤ 1000) (hn : 0 ≤ now ∧ now ≤ 1000000000) :
    Calls Tryd.prog 73 #[.agg #[.int .i64 k, .int .i64 c, .int .i64 f, .int .i64 u], .int .i64 now] w fun e w' => e = .returned (wrongC k c f u now).val ∧ Below w.heap.size w w' := by
  have H := Hp.nil w
  have HM := Lib.hid (leastM f)
  have HE : Hid ((wrongC k c f u now).val = .tuple #[.agg #[.int .i64 k, .int .i64 c, .int .i64 (wrongFails f), .int .i64 (if 3 ≤ wrongFails f then now + waitOf (wrongFails f) else u)], .int .i64 3]) := rfl
  have hb := wrongB hf
  generalize wrongFails f = g at *
  by_cases h3 : 3 ≤ g
  · rw [if_pos h3] at HE
    unfold waitOf at HE
    by_cases h4 : g - 3 < 12
    · rw [if_pos h4] at HE
      obtain ⟨hp0, hp1⟩ := pow_wait h3 h4
      go_enter Tryd.func73, Tryd.ntmps73
      go_wp2_with (go_at_call 72; refine (l13Least_any _ _ _).mono ?_; rintro e w' ⟨rfl, rfl⟩; rw [HM.out])
      refine bodyPost_ret (v := (wrongC k c f u now).val) (by rw [HE.out]; simp [results, Tryd.results73, go_sem]) rfl ⟨rfl, Hp.b (by repeat (first | (with_reducible exact H) | (with_reducible apply Hp.alloc) | (with_reducible apply Hp.set) | (with_reducible apply Hp.drew) | (with_reducible apply Hp.drewN) | (with_reducible apply Hp.bytesW) | (with_reducible exact Upd.here) | (with_reducible exact Upd.hereR) | (with_reducible apply Upd.there) | (with_reducible apply Sz.alloc) | (with_reducible apply Sz.set) | (with_reducible apply Sz.drew) | (with_reducible apply Sz.drewN) | (with_reducible apply Sz.bytesW) | (with_reducible assumption) | (with_reducible exact Sz.base _)))⟩
    · rw [if_neg h4] at HE
      go_enter Tryd.func73, Tryd.ntmps73
      go_wp2_with (go_at_call 72; refine (l13Least_any _ _ _).mono ?_; rintro e w' ⟨rfl, rfl⟩; rw [HM.out])
      refine bodyPost_ret (v := (wrongC k c f u now).val) (by rw [HE.out]; simp [results, Tryd.results73, go_sem]) rfl ⟨rfl, Hp.b (by repeat (first | (with_reducible exact H) | (with_reducible apply Hp.alloc) | (with_reducible apply Hp.set) | (with_reducible apply Hp.drew) | (with_reducible apply Hp.drewN) | (with_reducible apply Hp.bytesW) | (with_reducible exact Upd.here) | (with_reducible exact Upd.hereR) | (with_reducible apply Upd.there) | (with_reducible apply Sz.alloc) | (with_reducible apply Sz.set) | (with_reducible apply Sz.drew) | (with_reducible apply Sz.drewN) | (with_reducible apply Sz.bytesW) | (with_reducible assumption) | (with_reducible exact Sz.base _)))⟩
  · rw [if_neg h3] at HE
    go_enter Tryd.func73, Tryd.ntmps73
    go_wp2_with (go_at_call 72; refine (l13Least_any _ _ _).mono ?_; rintro e w' ⟨rfl, rfl⟩; rw [HM.out])
    refine bodyPost_ret (v := (wrongC k c f u now).val) (by rw [HE.out]; simp [results, Tryd.results73, go_sem]) rfl ⟨rfl, Hp.b (by repeat (first | (with_reducible exact H) | (with_reducible apply Hp.alloc) | (with_reducible apply Hp.set) | (with_reducible apply Hp.drew) | (with_reducible apply Hp.drewN) | (with_reducible apply Hp.bytesW) | (with_reducible exact Upd.here) | (with_reducible exact Upd.hereR) | (with_reducible apply Upd.there) | (with_reducible apply Sz.alloc) | (with_reducible apply Sz.set) | (with_reducible apply Sz.drew) | (with_reducible apply Sz.drewN) | (with_reducible apply Sz.bytesW) | (with_reducible assumption) | (with_reducible exact Sz.base _)))⟩
theorem devOk_iff {k c f u : Int} : devOk k c f u = true ↔ (0 ≤ k ∧ k ≤ 1099511627776) ∧ (0 ≤ c ∧ c ≤ 1000000000) ∧ (0 ≤ f ∧ f ≤ 1000) ∧ (0 ≤ u ∧ u ≤ 2000000000) := by
  simp [devOk, inR, and_assoc]
theorem least_min (a b : Int) : leastI a b = min a b := by unfold leastI; split <;> omega
theorem least_min' (a b : Int) : leastI a b = min b a := by unfold leastI; split <;> omega
def codeT (k x : Nat) : ByteArray := ⟨(codeL k x).toArray⟩
theorem codeF_eq {k x : Int} (hk : 0 ≤ k ∧ k ≤ 1099511627776) (hx : 0 ≤ x ∧ x ≤ 1000000000) : codeF k x = codeT k.toNat x.toNat := by
  rw [codeF, if_pos ⟨inR_true.2 hk, inR_true.2 hx⟩]; rfl
/-- The check of a valid device in the bounds. -/
def chkIn (P : Nat → Bool) (k c f u now step : Int) (lim : Nat) : Chk := if now < u then ⟨k, c, f, u, 2⟩ else chkEnd k c f u now step (findC P (lim + 1 - c.toNat) c.toNat)
set_option maxHeartbeats 4000000 in
set_option maxRecDepth 10000 in
theorem checkCode_any (kn cn lim : Nat) (f u win now : Int) (code : ByteArray) (w : World) (hk : kn ≤ 1099511627776) (hc : cn ≤ 1000000000) (hf : 0 ≤ f ∧ f ≤ 1000) (hu : 0 ≤ u ∧ u ≤ 2000000000) (hw : 0 ≤ win ∧ win ≤ 20) (hn : 0 ≤ now ∧ now ≤ 1000000000) (hlim : min ((cn : Int) + win) 1000000000 = lim) (ht : tabOk w) :
    Calls Tryd.prog 76 #[.agg #[.int .i64 kn, .int .i64 cn, .int .i64 f, .int .i64 u], .string code, .int .i64 win, .int .i64 now] w fun e w' => e = .returned (chkIn (fun x => eqB (codeT kn x) code) kn cn f u now 1 lim).val ∧ Below w.heap.size w w' := by
  have H := Hp.nil w
  by_cases hb : now < u
  · have HR : Hid (chkIn (fun x => eqB (codeT kn x) code) kn cn f u now 1 lim = ⟨kn, cn, f, u, 2⟩) := by show _ = _; rw [chkIn, if_pos hb]
    go_enter Tryd.func76, Tryd.ntmps76
    go_wp2_with fail
    refine bodyPost_ret (v := .tuple #[.agg #[.int .i64 kn, .int .i64 cn, .int .i64 f, .int .i64 u], .int .i64 2]) (by simp [results, Tryd.results76, go_sem]) rfl ⟨by rw [HR.out]; rfl, Hp.b (by repeat (first | (with_reducible exact H) | (with_reducible apply Hp.alloc) | (with_reducible apply Hp.set) | (with_reducible apply Hp.drew) | (with_reducible apply Hp.drewN) | (with_reducible apply Hp.bytesW) | (with_reducible exact Upd.here) | (with_reducible exact Upd.hereR) | (with_reducible apply Upd.there) | (with_reducible apply Sz.alloc) | (with_reducible apply Sz.set) | (with_reducible apply Sz.drew) | (with_reducible apply Sz.drewN) | (with_reducible apply Sz.bytesW) | (with_reducible assumption) | (with_reducible exact Sz.base _)))⟩
  obtain ⟨P, hP⟩ : ∃ P : Nat → Bool, P = fun x => eqB (codeT kn x) code := ⟨_, rfl⟩
  have HP := Lib.hid hP
  rw [← hP]
  clear hP
  obtain ⟨o, ho⟩ : ∃ o, findC P (lim + 1 - cn) cn = o := ⟨_, rfl⟩
  have HR : Hid (chkIn P kn cn f u now 1 lim = chkEnd kn cn f u now 1 o) := by show _ = _; rw [chkIn, if_neg hb, Int.toNat_natCast, ho]
  have HO := Lib.hid ho
  clear ho
  have hl1 : lim ≤ 1000000000 := by omega
  have hl2 : cn ≤ lim := by omega
  go_enter Tryd.func76, Tryd.ntmps76
  go_wp2_with fail
  go_loopw [10] (fun i wr => ∃ x m : Nat, i = .int .i64 x ∧ cn ≤ x ∧ x + m = lim + 1 ∧ Hid (findC P m x = o) ∧ Hid (Hp w wr [box (w.heap.size + 1) 36 [.int .i64 0, .int .i64 0, .int .i64 0, .int .i64 0], box w.heap.size 36 [.int .i64 kn, .int .i64 cn, .int .i64 f, .int .i64 u]])) (fun i _ => lim + 1 - (intOf i).toNat)
  case atStart => exact ⟨cn, lim + 1 - cn, rfl, Nat.le_refl _, by omega, HO, Lib.hid (by repeat (first | (with_reducible exact H) | (with_reducible apply Hp.alloc) | (with_reducible apply Hp.set) | (with_reducible apply Hp.drew) | (with_reducible apply Hp.drewN) | (with_reducible apply Hp.bytesW) | (with_reducible exact Upd.here) | (with_reducible exact Upd.hereR) | (with_reducible apply Upd.there) | (with_reducible apply Sz.alloc) | (with_reducible apply Sz.set) | (with_reducible apply Sz.drew) | (with_reducible apply Sz.drewN) | (with_reducible apply Sz.bytesW) | (with_reducible assumption) | (with_reducible exact Sz.base _)))⟩
  case round =>
    clear H
    obtain ⟨x, m, rfl, hx1, hx2, HX, HH⟩ := hrel
    have H := HH.out
    have F := H.facts; simp only [Facts, NeF, box, row, reg, cellsF, ne_eq, true_and, and_true, Nat.reduceAdd, Nat.zero_add] at F
    by_cases hlt : x ≤ lim
    · have hle : (x : Int) ≤ min ((cn : Int) + win) 1000000000 := by omega
      go_wp2_with fail
      refine (codeAt_any kn x _ hk (by omega) (ht.on (Hp.b (by repeat (first | (with_reducible exact H) | (with_reducible apply Hp.alloc) | (with_reducible apply Hp.set) | (with_reducible apply Hp.drew) | (with_reducible apply Hp.drewN) | (with_reducible apply Hp.bytesW) | (with_reducible exact Upd.here) | (with_reducible exact Upd.hereR) | (with_reducible apply Upd.there) | (with_reducible apply Sz.alloc) | (with_reducible apply Sz.set) | (with_reducible apply Sz.drew) | (with_reducible apply Sz.drewN) | (with_reducible apply Sz.bytesW) | (with_reducible assumption) | (with_reducible exact Sz.base _)))))).mono ?_
      rintro e w1 ⟨rfl, hb1⟩
      replace H := Hp.step (by repeat (first | (with_reducible exact H) | (with_reducible apply Hp.alloc) | (with_reducible apply Hp.set) | (with_reducible apply Hp.drew) | (with_reducible apply Hp.drewN) | (with_reducible apply Hp.bytesW) | (with_reducible exact Upd.here) | (with_reducible exact Upd.hereR) | (with_reducible apply Upd.there) | (with_reducible apply Sz.alloc) | (with_reducible apply Sz.set) | (with_reducible apply Sz.drew) | (with_reducible apply Sz.drewN) | (with_reducible apply Sz.bytesW) | (with_reducible assumption) | (with_reducible exact Sz.base _))) hb1; (try simp only [List.set_cons_zero, List.set_cons_succ, List.cons_append, List.nil_append] at H); clear hb1
      clear F; have F := H.facts; simp only [Facts, NeF, box, row, reg, cellsF, ne_eq, true_and, and_true, Nat.reduceAdd, Nat.zero_add] at F
      have HPx : Hid (P x = eqB (⟨(codeL kn x).toArray⟩ : ByteArray) code) := by show _ = _; rw [HP.out]; rfl
      generalize (⟨(codeL kn x).toArray⟩ : ByteArray) = cx at *
      cases he : eqB cx code with
      | true =>
        have HO2 := Lib.hid (findC_hit HX.out (by omega) (by rw [HPx.out, he]))
        unfold eqB at he
        go_wp2_with fail
        refine bodyPost_ret (v := .tuple #[.agg #[.int .i64 kn, .int .i64 (min ((x : Int) + 1) 1000000000), .int .i64 0, .int .i64 0], .int .i64 0]) (by simp [results, Tryd.results76, go_sem, F]) rfl ⟨by rw [HR.out, HO2.out, chkEnd, least_min]; rfl, Hp.b (by repeat (first | (with_reducible exact H) | (with_reducible apply Hp.alloc) | (with_reducible apply Hp.set) | (with_reducible apply Hp.drew) | (with_reducible apply Hp.drewN) | (with_reducible apply Hp.bytesW) | (with_reducible exact Upd.here) | (with_reducible exact Upd.hereR) | (with_reducible apply Upd.there) | (with_reducible apply Sz.alloc) | (with_reducible apply Sz.set) | (with_reducible apply Sz.drew) | (with_reducible apply Sz.drewN) | (with_reducible apply Sz.bytesW) | (with_reducible assumption) | (with_reducible exact Sz.base _)))⟩
      | false =>
        have HX2 := Lib.hid (findC_go HX.out (by omega) (by rw [HPx.out, he]))
        unfold eqB at he
        go_wp2_with fail
        exact ⟨⟨x + 1, m - 1, by go_num, by omega, by omega, HX2, Lib.hid (by repeat (first | (with_reducible exact H) | (with_reducible apply Hp.alloc) | (with_reducible apply Hp.set) | (with_reducible apply Hp.drew) | (with_reducible apply Hp.drewN) | (with_reducible apply Hp.bytesW) | (with_reducible exact Upd.here) | (with_reducible exact Upd.hereR) | (with_reducible apply Upd.there) | (with_reducible apply Sz.alloc) | (with_reducible apply Sz.set) | (with_reducible apply Sz.drew) | (with_reducible apply Sz.drewN) | (with_reducible apply Sz.bytesW) | (with_reducible assumption) | (with_reducible exact Sz.base _)))⟩, by simp [intOf]; omega⟩
    · have hle : ¬ (x : Int) ≤ min ((cn : Int) + win) 1000000000 := by omega
      obtain rfl : m = 0 := by omega
      have HO2 := Lib.hid (findC_end HX.out)
      go_wp2_with fail
      refine (wrongCode_any _ _ _ _ _ _ hf hn).mono ?_
      rintro e w1 ⟨rfl, hb1⟩
      replace H := Hp.step (by repeat (first | (with_reducible exact H) | (with_reducible apply Hp.alloc) | (with_reducible apply Hp.set) | (with_reducible apply Hp.drew) | (with_reducible apply Hp.drewN) | (with_reducible apply Hp.bytesW) | (with_reducible exact Upd.here) | (with_reducible exact Upd.hereR) | (with_reducible apply Upd.there) | (with_reducible apply Sz.alloc) | (with_reducible apply Sz.set) | (with_reducible apply Sz.drew) | (with_reducible apply Sz.drewN) | (with_reducible apply Sz.bytesW) | (with_reducible assumption) | (with_reducible exact Sz.base _))) hb1; (try simp only [List.set_cons_zero, List.set_cons_succ, List.cons_append, List.nil_append] at H); clear hb1
      clear F; have F := H.facts; simp only [Facts, NeF, box, row, reg, cellsF, ne_eq, true_and, and_true, Nat.reduceAdd, Nat.zero_add] at F
      have HE : Hid ((wrongC kn cn f u now).dev = .agg #[.int .i64 kn, .int .i64 cn, .int .i64 (wrongFails f), .int .i64 (wrongTil f u now)]) := rfl
      have HV : Hid ((wrongC kn cn f u now).val = .tuple #[.agg #[.int .i64 kn, .int .i64 cn, .int .i64 (wrongFails f), .int .i64 (wrongTil f u now)], .int .i64 3]) := rfl
      rw [HE.out]
      generalize wrongFails f = g at *
      generalize wrongTil f u now = g' at *
      go_wp2_with fail
      refine bodyPost_ret (v := .tuple #[.agg #[.int .i64 kn, .int .i64 cn, .int .i64 g, .int .i64 g'], .int .i64 3]) (by simp [results, Tryd.results76, go_sem, F]) rfl ⟨by rw [HR.out, HO2.out, chkEnd, HV.out], Hp.b (by repeat (first | (with_reducible exact H) | (with_reducible apply Hp.alloc) | (with_reducible apply Hp.set) | (with_reducible apply Hp.drew) | (with_reducible apply Hp.drewN) | (with_reducible apply Hp.bytesW) | (with_reducible exact Upd.here) | (with_reducible exact Upd.hereR) | (with_reducible apply Upd.there) | (with_reducible apply Sz.alloc) | (with_reducible apply Sz.set) | (with_reducible apply Sz.drew) | (with_reducible apply Sz.drewN) | (with_reducible apply Sz.bytesW) | (with_reducible assumption) | (with_reducible exact Sz.base _)))⟩
def checkV (k c f u : Int) (code : ByteArray) (win now : Int) : Chk :=
  if devOk k c f u = true ∧ inR win 0 20 = true ∧ inR now 0 1000000000 = true then chkIn (fun x => eqB (codeT k.toNat x) code) k c f u now 1 (min (c + win) 1000000000).toNat else ⟨k, c, f, u, 1⟩
def resyncV (k c f u : Int) (a b : ByteArray) (now : Int) : Chk :=
  if devOk k c f u = true ∧ inR now 0 1000000000 = true then chkIn (fun x => eqB (codeT k.toNat x) a && eqB (codeT k.toNat (x + 1)) b) k c f u now 2 (min (c + 100) 999999999).toNat else ⟨k, c, f, u, 1⟩
end Go.Proofs.YtonbebacioocnaaDoor

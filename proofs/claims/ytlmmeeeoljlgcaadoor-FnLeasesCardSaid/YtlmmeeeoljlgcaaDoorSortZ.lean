/- The stable sort of leases by Ends. No condition. -/
import Derived.Test.YtlmmeeeoljlgcaaDoorSortYc
import Derived.Deep.DeepCutAuto
set_option linter.unusedVariables false
set_option linter.unusedSimpArgs false
namespace Go.Proofs.YtlmmeeeoljlgcaaDoor
open Go.RowKit
set_option linter.unusedVariables false
set_option linter.unusedSimpArgs false
abbrev ChkZ := Chk (α := Lease) (·.ends) (·.id)
abbrev FulZ := Ful (α := Lease) (·.ends) (·.id)
set_option maxHeartbeats 8000000 in
set_option maxRecDepth 10000 in
theorem stable_hp (g : Nat) (eg : ∀ args w, (callFunc g args).run Tryd.prog w = .ok (.enter g args) w) (HC : Hid (∀ (W : World) (x y : Lease), Calls Tryd.prog g #[valL x, valL y] W fun e w' => e = .returned (.int .i64 (cmpZ x y)) ∧ Below W.heap.size W w')) (A : Option Addr) (n c : Nat) (X : Ent) (w0 : World) (hn20 : n ≤ 1048576) (xs0 : List Lease) (w : World) (H : Hp w0 w [rLs A n c xs0, X]) (hn : Hid (xs0.length = n)) (hid : Hid (xs0.Pairwise fun x y => x.id < y.id)) :
    Calls Tryd.prog 79 #[.slice A n c, .int .i64 n, .func (.func g) #[] #[]] w fun e w' => e = .returned (.tuple #[]) ∧ ∃ Z, Z.Perm xs0 ∧ SoZ Z ∧ Hp w0 w' [rLs A n c Z, X] := by
  go_enter Tryd.func79, Tryd.ntmps79
  go_wp2_with fail
  have HH := Lib.hid H; clear H
  go_loopw [7, 8] (fun i j wr => ∃ a b : Nat, i = .int .i64 a ∧ j = .int .i64 b ∧ b ≤ n + 20 ∧ ∃ D D' R : List Lease, Hid (xs0 = D ++ R ∧ FulZ 20 D D' ∧ D.length = a ∧ a + 20 = b) ∧ Hid (Hp w0 wr [rLs A n c (D' ++ R), X])) (fun i _ _ => n - (intOf i).toNat)
  case atStart => exact ⟨0, 20, rfl, rfl, by omega, [], [], xs0, ⟨rfl, .nil, rfl, rfl⟩, HH⟩
  case round =>
    clear HH
    obtain ⟨a, b, rfl, rfl, hb9, D, D', R, HX, HP⟩ := hrel
    have H := HP.out
    have hdl : D'.length = a := by rw [HX.out.2.1.len]; exact HX.out.2.2.1
    have hrn : a + R.length = n := by have h1 := HX.out; have := hn.out; rw [h1.1, List.length_append] at this; omega
    by_cases hlt : b ≤ n
    · have hb1 : (b : Int) ≤ (n : Int) := by omega
      have hab : a + 20 = b := HX.out.2.2.2
      obtain ⟨u, R2, rfl, hul⟩ : ∃ u R2, R = u ++ R2 ∧ u.length = 20 := ⟨R.take 20, R.drop 20, (List.take_append_drop _ _).symm, by rw [List.length_take]; omega⟩
      have HR : Hid (D'.length = a ∧ a + u.length = b ∧ b + R2.length = n) := by rw [List.length_append] at hrn; exact ⟨hdl, by omega, by omega⟩
      have HQ : Hid (u.Pairwise fun x y => x.id < y.id) := by have h9 := hid.out; rw [HX.out.1] at h9; exact (List.pairwise_append.1 (List.pairwise_append.1 h9).2.1).1
      obtain ⟨b2, hb2⟩ : ∃ b2, b + 20 = b2 := ⟨_, rfl⟩
      have hw : IntKind.i64.wrap ((b : Int) + 20) = (b2 : Int) := by rw [IntKind.wrap_i64]; omega
      have HM : Hid (n - b < n - a ∧ b2 ≤ n + 20) := ⟨by omega, by omega⟩
      have HB2 := Lib.hid hb2
      clear hb2
      clear hdl hrn hab hlt HP
      go_wp2_with fail
      refine (insSort_hp g eg HC A n c a b D' u R2 X w0 _ H HR HQ hn20).mono ?_
      rintro e w1 ⟨rfl, Z, hz1, hz2, H1⟩
      clear H
      have H := H1
      clear H1
      have HN : Hid (xs0 = (D ++ u) ++ R2 ∧ FulZ 20 (D ++ u) (D' ++ Z) ∧ (D ++ u).length = b ∧ b + 20 = b2) := by
        have h1 := HX.out
        exact ⟨by rw [h1.1]; simp, .snoc h1.2.1 hul hz1 hz2, by rw [List.length_append, h1.2.2.1]; have := HR.out; omega, HB2.out⟩
      clear hz1 hz2 hul HR HQ
      go_wp2_with fail
      go_roundw
      case rel => exact ⟨b, b2, rfl, rfl, HM.out.2, D ++ u, D' ++ Z, R2, HN, Lib.hid (by simpa using H)⟩
      case measure => have := HM.out.1; simp [intOf]; omega
    · have hb1 : ¬ (b : Int) ≤ (n : Int) := by omega
      have HR : Hid (D'.length = a ∧ a + R.length = n ∧ n + ([] : List Lease).length = n) := ⟨hdl, hrn, rfl⟩
      have HQ : Hid (R.Pairwise fun x y => x.id < y.id) := by have h9 := hid.out; rw [HX.out.1] at h9; exact (List.pairwise_append.1 h9).2.1
      have hr20 : R.length ≤ 20 := by have := HX.out.2.2.2; omega
      clear hdl hrn hlt HP
      go_wp2_with fail
      refine (insSort_hp g eg HC A n c a n D' R [] X w0 _ (by rw [List.append_nil]; exact H) HR HQ hn20).mono ?_
      rintro e w1 ⟨rfl, Z, hz1, hz2, H1⟩
      rw [List.append_nil] at H1
      have HK : Hid (ChkZ 20 xs0 (D' ++ Z)) := by
        have h1 := HX.out
        show ChkZ 20 xs0 (D' ++ Z)
        rw [h1.1]
        exact h1.2.1.chk (.last hr20 hz1 hz2)
      have HH := Lib.hid H1
      clear H H1 hz1 hz2 HX HR HQ hr20 hb9
      generalize D' ++ Z = xs1 at *
      clear D D' Z R
      go_wp2_with fail
      go_loopw [6, 7, 8, 9] (fun s6 s7 s8 s9 wr => ∃ k : Nat, s6 = .int .i64 k ∧ 20 ≤ k ∧ k ≤ 2 * n + 20 ∧ ∃ xs1, Hid (ChkZ k xs0 xs1) ∧ Hid (Hp w0 wr [rLs A n c xs1, X])) (fun s6 _ _ _ _ => n - (intOf s6).toNat)
      case atStart => exact ⟨20, rfl, Nat.le_refl _, by omega, xs1, HK, HH⟩
      case round =>
        clear HK HH xs1
        obtain ⟨k, rfl, hk20, hk9, xs1, HK, HP⟩ := hrel
        by_cases hlt : k < n
        · have hk1 : (k : Int) < (n : Int) := by omega
          have hw2 : IntKind.i64.wrap (2 * (k : Int)) = ((2 * k : Nat) : Int) := by rw [IntKind.wrap_i64]; omega
          have hw3 : IntKind.i64.wrap ((k : Int) * 2) = ((2 * k : Nat) : Int) := by rw [IntKind.wrap_i64]; omega
          obtain ⟨kk, hkk⟩ : ∃ kk, 2 * k = kk := ⟨_, rfl⟩
          rw [hkk] at hw2 hw3
          have HKK := Lib.hid hkk
          have hkk9 : kk ≤ 2097152 := by omega
          have HM2 : Hid (20 ≤ kk ∧ kk ≤ 2 * n + 20 ∧ n - kk < n - k) := ⟨by omega, by omega, by omega⟩
          clear hlt hkk
          go_wp2_with fail
          go_loopw [7, 8] (fun i j wr => ∃ a b : Nat, i = .int .i64 a ∧ j = .int .i64 b ∧ b ≤ n + kk ∧ ∃ D D' R R' : List Lease, Hid (xs0 = D ++ R ∧ FulZ kk D D' ∧ ChkZ k R R' ∧ D.length = a ∧ a + kk = b) ∧ Hid (Hp w0 wr [rLs A n c (D' ++ R'), X])) (fun i _ _ => n - (intOf i).toNat)
          case atStart => exact ⟨0, kk, rfl, rfl, by omega, [], [], xs0, xs1, ⟨rfl, .nil, HK.out, rfl, by omega⟩, HP⟩
          case round =>
            clear HP HK xs1
            obtain ⟨a, b, rfl, rfl, hb9, D, D', R, R', HX, HP⟩ := hrel
            have H := HP.out
            have hdl : D'.length = a := by rw [HX.out.2.1.len]; exact HX.out.2.2.2.1
            have hrn : a + R.length = n := by have h1 := HX.out; have := hn.out; rw [h1.1, List.length_append] at this; omega
            have hab : a + kk = b := HX.out.2.2.2.2
            have hkk := HKK.out
            by_cases hlt : b ≤ n
            · have hb1 : (b : Int) ≤ (n : Int) := by omega
              obtain ⟨u, u', v, v', t, t', rfl, rfl, hu1, hu2, hu3, hv1, hv2, hv3, ht⟩ := HX.out.2.2.1.two (by omega) (by omega)
              have hwm : IntKind.i64.wrap ((a : Int) + (k : Int)) = ((a + k : Nat) : Int) := by rw [IntKind.wrap_i64]; omega
              have hwb : IntKind.i64.wrap ((b : Int) + (kk : Int)) = ((b + kk : Nat) : Int) := by rw [IntKind.wrap_i64]; omega
              obtain ⟨m, hm⟩ : ∃ m, a + k = m := ⟨_, rfl⟩
              obtain ⟨b2, hb2⟩ : ∃ b2, b + kk = b2 := ⟨_, rfl⟩
              rw [hm] at hwm
              rw [hb2] at hwb
              have hul : u'.length = k := by rw [hu2.length_eq]; exact hu1
              have hvl : v'.length = k := by rw [hv2.length_eq]; exact hv1
              have htl : t'.length = t.length := ht.len
              have HR : Hid (D'.length = a ∧ a + u'.length = m ∧ m + v'.length = b ∧ b + t'.length = n ∧ 0 < u'.length ∧ 0 < v'.length) := by simp only [List.length_append] at hrn; exact ⟨hdl, by omega, by omega, by omega, by omega, by omega⟩
              have HS : Hid (SoZ u' ∧ SoZ v' ∧ BeS (·.id) u' v') := ⟨hu3, hv3, bes_perm (P := D) (S := t) (by have h9 := hid.out; rw [HX.out.1] at h9; exact h9) hu2 hv2⟩
              have HM : Hid (n - b < n - a ∧ b2 ≤ n + kk) := ⟨by omega, by omega⟩
              have HE : Hid (b + kk = b2 ∧ kk = 2 * k ∧ a + kk = b) := ⟨hb2, by omega, hab⟩
              have HU := Lib.hid hu1; have HU2 := Lib.hid hu2; have HV := Lib.hid hv1; have HV2 := Lib.hid hv2; have HT := Lib.hid ht
              clear hdl hrn hab hlt HP hkk hm hb2 hul hvl htl hu1 hu2 hu3 hv1 hv2 hv3 ht hb9
              go_wp2_with fail
              refine (symMerge_hp g eg HC A n c X w0 hn20 (b - a) a m b D' u' v' t' _ (Nat.le_refl _) H HR HS).mono ?_
              rintro e w1 ⟨rfl, Z, hz1, hz2, H1⟩
              clear H
              have H := H1
              clear H1
              have HN : Hid (xs0 = (D ++ (u ++ v)) ++ t ∧ FulZ kk (D ++ (u ++ v)) (D' ++ Z) ∧ ChkZ k t t' ∧ (D ++ (u ++ v)).length = b ∧ b + kk = b2) := by
                have h1 := HX.out
                refine ⟨by rw [h1.1]; simp, ?_, HT.out, ?_, HE.out.1⟩
                · have h2 := h1.2.1
                  rw [HE.out.2.1] at h2 ⊢
                  exact ful_round h2 HU.out HV.out HU2.out HV2.out hz1 hz2
                · rw [List.length_append, List.length_append, h1.2.2.2.1, HU.out, HV.out]; have := HE.out; omega
              clear hz1 hz2 HR HS HX HU HU2 HV HV2 HT
              go_wp2_with fail
              go_roundw
              case rel => exact ⟨b, b2, rfl, rfl, HM.out.2, D ++ (u ++ v), D' ++ Z, t, t', HN, Lib.hid (by simpa using H)⟩
              case measure => have := HM.out.1; simp [intOf]; omega
            · have hb1 : ¬ (b : Int) ≤ (n : Int) := by omega
              have hwm : IntKind.i64.wrap ((a : Int) + (k : Int)) = ((a + k : Nat) : Int) := by rw [IntKind.wrap_i64]; omega
              obtain ⟨m, hm⟩ : ∃ m, a + k = m := ⟨_, rfl⟩
              rw [hm] at hwm
              have HE : Hid (a + k = m ∧ kk = 2 * k ∧ a + kk = b ∧ n < b ∧ a + R.length = n ∧ D'.length = a) := ⟨hm, by omega, hab, by omega, hrn, hdl⟩
              clear hdl hrn hab hlt HP hkk hm hb9
              go_upto_if 54 with fail
              go_cut [] (fun wc => ∃ ys : List Lease, Hid (ChkZ kk xs0 ys) ∧ Hp w0 wc [rLs A n c ys, X])
              case first =>
                by_cases hmn : m < n
                · have hmn1 : (m : Int) < (n : Int) := by omega
                  obtain ⟨u, u', t, t', rfl, rfl, hu1, hu2, hu3, ht⟩ := HX.out.2.2.1.cut (by have := HE.out; omega)
                  obtain ⟨t1, t2⟩ := ht.one (by have := HE.out; simp only [List.length_append] at this; omega)
                  have hul : u'.length = k := by rw [hu2.length_eq]; exact hu1
                  have htl : t'.length = t.length := ht.len
                  have HR : Hid (D'.length = a ∧ a + u'.length = m ∧ m + t'.length = n ∧ n + ([] : List Lease).length = n ∧ 0 < u'.length ∧ 0 < t'.length) := by have := HE.out; simp only [List.length_append] at this; exact ⟨by omega, by omega, by omega, rfl, by omega, by omega⟩
                  have HS : Hid (SoZ u' ∧ SoZ t' ∧ BeS (·.id) u' t') := ⟨hu3, t2, bes_perm (P := D) (S := []) (by have h9 := hid.out; rw [HX.out.1] at h9; rw [List.append_nil]; exact h9) hu2 t1⟩
                  have HU2 := Lib.hid hu2; have HT := Lib.hid t1
                  have HLE : Hid ((u ++ t).length ≤ kk) := by have := HE.out; show _ ≤ _; omega
                  clear hu1 hu2 hu3 ht t1 t2 hul htl hmn
                  go_wp2_with (go_at_call 89; refine (symMerge_hp g eg HC A n c X w0 hn20 (n - a) a m n D' u' t' [] _ (Nat.le_refl _) (by simpa using H) HR HS).mono ?_; rintro e w1 ⟨rfl, Z, hz1, hz2, H1⟩)
                  go_meet
                  refine ⟨D' ++ Z, ?_, by simpa using H1⟩
                  have h1 := HX.out
                  show ChkZ kk xs0 (D' ++ Z)
                  rw [h1.1]
                  exact h1.2.1.chk (.last HLE.out (hz1.trans (HU2.out.append HT.out)) hz2)
                · have hmn1 : ¬ (m : Int) < (n : Int) := by omega
                  go_wp2_with fail
                  go_meet
                  refine ⟨D' ++ R', ?_, (by repeat (first | (with_reducible exact H) | (with_reducible apply Hp.alloc) | (with_reducible apply Hp.set) | (with_reducible apply Hp.drew) | (with_reducible apply Hp.drewN) | (with_reducible apply Hp.bytesW) | (with_reducible exact Upd.here) | (with_reducible exact Upd.hereR) | (with_reducible apply Upd.there) | (with_reducible apply Sz.alloc) | (with_reducible apply Sz.set) | (with_reducible apply Sz.drew) | (with_reducible apply Sz.drewN) | (with_reducible apply Sz.bytesW) | (with_reducible assumption) | (with_reducible exact Sz.base _)))⟩
                  have h1 := HX.out
                  show ChkZ kk xs0 (D' ++ R')
                  rw [h1.1]
                  exact h1.2.1.chk (h1.2.2.1.up (by have := HE.out; omega) (by have := HE.out; omega))
              case rest =>
              clear H HX HE
              obtain ⟨ys, HY, H⟩ := hcut
              go_wp2_with fail
              go_roundw
              case rel => exact ⟨kk, rfl, HM2.out.1, HM2.out.2.1, ys, HY, Lib.hid (by repeat (first | (with_reducible exact H) | (with_reducible apply Hp.alloc) | (with_reducible apply Hp.set) | (with_reducible apply Hp.drew) | (with_reducible apply Hp.drewN) | (with_reducible apply Hp.bytesW) | (with_reducible exact Upd.here) | (with_reducible exact Upd.hereR) | (with_reducible apply Upd.there) | (with_reducible apply Sz.alloc) | (with_reducible apply Sz.set) | (with_reducible apply Sz.drew) | (with_reducible apply Sz.drewN) | (with_reducible apply Sz.bytesW) | (with_reducible assumption) | (with_reducible exact Sz.base _)))⟩
              case measure => have := HM2.out.2.2; simp [intOf]; omega
        · have hk1 : ¬ (k : Int) < (n : Int) := by omega
          have HF := Lib.hid (HK.out.one (by have := hn.out; omega))
          have H := HP.out
          clear hlt HP HK
          go_wp2_with fail
          refine bodyPost_end (v := .tuple #[]) (by simp [results, Tryd.results79, go_sem]) rfl ⟨rfl, xs1, HF.out.1, HF.out.2, (by repeat (first | (with_reducible exact H) | (with_reducible apply Hp.alloc) | (with_reducible apply Hp.set) | (with_reducible apply Hp.drew) | (with_reducible apply Hp.drewN) | (with_reducible apply Hp.bytesW) | (with_reducible exact Upd.here) | (with_reducible exact Upd.hereR) | (with_reducible apply Upd.there) | (with_reducible apply Sz.alloc) | (with_reducible apply Sz.set) | (with_reducible apply Sz.drew) | (with_reducible apply Sz.drewN) | (with_reducible apply Sz.bytesW) | (with_reducible assumption) | (with_reducible exact Sz.base _)))⟩
set_option maxHeartbeats 4000000 in
theorem sortStable_hp (g : Nat) (eg : ∀ args w, (callFunc g args).run Tryd.prog w = .ok (.enter g args) w) (HC : Hid (∀ (W : World) (x y : Lease), Calls Tryd.prog g #[valL x, valL y] W fun e w' => e = .returned (.int .i64 (cmpZ x y)) ∧ Below W.heap.size W w')) (A : Option Addr) (n c : Nat) (X : Ent) (w0 : World) (hn20 : n ≤ 1048576) (xs0 : List Lease) (w : World) (H : Hp w0 w [rLs A n c xs0, X]) (hn : Hid (xs0.length = n)) (hid : Hid (xs0.Pairwise fun x y => x.id < y.id)) :
    Calls Tryd.prog 59 #[.slice A n c, .func (.func g) #[] #[]] w fun e w' => e = .returned (.tuple #[]) ∧ ∃ Z, Z.Perm xs0 ∧ SoZ Z ∧ Hp w0 w' [rLs A n c Z, X] := by
  go_enter Tryd.func59, Tryd.ntmps59
  go_wp2_with fail
  refine (stable_hp g eg HC A n c X w0 hn20 xs0 _ (by repeat (first | (with_reducible exact H) | (with_reducible apply Hp.alloc) | (with_reducible apply Hp.set) | (with_reducible apply Hp.drew) | (with_reducible apply Hp.drewN) | (with_reducible apply Hp.bytesW) | (with_reducible exact Upd.here) | (with_reducible exact Upd.hereR) | (with_reducible apply Upd.there) | (with_reducible apply Sz.alloc) | (with_reducible apply Sz.set) | (with_reducible apply Sz.drew) | (with_reducible apply Sz.drewN) | (with_reducible apply Sz.bytesW) | (with_reducible assumption) | (with_reducible exact Sz.base _))) hn hid).mono ?_
  rintro e w1 ⟨rfl, Z, hz1, hz2, H1⟩
  have HZ := Lib.hid hz1
  have HZ2 := Lib.hid hz2
  clear hz1 hz2
  go_wp2_with fail
  refine bodyPost_end (v := .tuple #[]) (by simp [results, Tryd.results59, go_sem]) rfl ⟨rfl, Z, HZ.out, HZ2.out, (by repeat (first | (with_reducible exact H1) | (with_reducible apply Hp.alloc) | (with_reducible apply Hp.set) | (with_reducible apply Hp.drew) | (with_reducible apply Hp.drewN) | (with_reducible apply Hp.bytesW) | (with_reducible exact Upd.here) | (with_reducible exact Upd.hereR) | (with_reducible apply Upd.there) | (with_reducible apply Sz.alloc) | (with_reducible apply Sz.set) | (with_reducible apply Sz.drew) | (with_reducible apply Sz.drewN) | (with_reducible apply Sz.bytesW) | (with_reducible assumption) | (with_reducible exact Sz.base _)))⟩
end Go.Proofs.YtlmmeeeoljlgcaaDoor

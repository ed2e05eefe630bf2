/- Stores as footprints: marks laid (the statements' own). No condition. -/
import Derived.Test.YtklmcbabpncfmaaDoorStE
import Derived.Test.YtklmcbabpncfmaaDoorMark
import Derived.Test.YtklmcbabpncfmaaDoorStoreA
import Derived.Deep.RegionHeld3
namespace Go.Proofs.YtklmcbabpncfmaaDoor
open Go.RowKit
set_option linter.unusedVariables false
set_option linter.unusedSimpArgs false
def markV (l : Nat) (v : Ver) : Ver := ⟨mkB l v.data.length, v.da, v.dc, ((l + v.data.length : Nat) : Int), decide ((l + v.data.length + 1) % 3 = 0), decide ((l + v.data.length + 2) % 3 = 0)⟩
def mkV : Nat → List Ver → List Ver
  | _, [] => []
  | l, v :: vs => markV l v :: mkV (l + v.data.length + 3) vs
def cntV : List Ver → Nat
  | [] => 0
  | v :: vs => v.data.length + 3 + cntV vs
theorem mkV_len : ∀ (l : Nat) (vs : List Ver), (mkV l vs).length = vs.length
  | _, [] => rfl
  | l, v :: vs => by rw [mkV, List.length_cons, mkV_len, List.length_cons]
def markE (l : Nat) (e : Entry) : Entry := ⟨mkText l, ((l + 1 : Nat) : Int), mkV (l + 2) e.vs, e.va, e.vc⟩
def mkE : Nat → List Entry → List Entry
  | _, [] => []
  | l, e :: es => markE l e :: mkE (l + 2 + cntV e.vs) es
def cntE : List Entry → Nat
  | [] => 0
  | e :: es => 2 + cntV e.vs + cntE es
theorem mkE_len : ∀ (l : Nat) (es : List Entry), (mkE l es).length = es.length
  | _, [] => rfl
  | l, e :: es => by rw [mkE, List.length_cons, mkE_len, List.length_cons]
theorem rep_mid {X Y : List Ent} {e e' : Ent} : Rep (X ++ e :: Y) e e' (X ++ e' :: Y) := ⟨X.length, by simp, by simp⟩
theorem set_off {α : Type} {P M : List α} {p j : Nat} {x : α} (hP : P.length = p) : (P ++ M).set (p + j) x = P ++ M.set j x := by subst hP; simp [List.set_append]
theorem get_off {α : Type} {P M : List α} {p j : Nat} (hP : P.length = p) : (P ++ M)[p + j]? = M[j]? := by subst hP; rw [List.getElem?_append_right (by omega)]; congr 1; omega
theorem rowGm {w : World} {B k n c : Nat} {e : TypeId} {A : Option Addr} {xs : List Value} (h : w.ownsRow B e k (.slice A n c) n xs) (h0 : 0 < n) : ∃ g, A = some ⟨g, 0, none⟩ := by
  rcases h.2 with ⟨e1, e2⟩ | ⟨g, cap, cur, e1, _⟩
  · omega
  · injection e1 with e1 _ _; exact ⟨g, e1⟩
theorem own_at {w : World} {B k n g c : Nat} {e : TypeId} {xs : List Value} (h : w.ownsRow B e k (.slice (some ⟨g, 0, none⟩) n c) n xs) {j : Nat} {v : Value} (hv : xs[j]? = some v) : w.cell? ⟨g, j, none⟩ = some v := by
  have := h.cells (g := g) rfl j v hv
  cases j with
  | zero => simpa [Addr.add] using this
  | succ j => simpa [Addr.add] using this
theorem flat_len4 (vs : List Ver) : (vs.flatMap encVer).length = vs.length * 4 := by rw [flat_len encVer 4 encVer_len]
theorem flat_len3 (es : List Entry) : (es.flatMap encEntry).length = es.length * 3 := by rw [flat_len encEntry 3 encEntry_len]
set_option maxHeartbeats 8000000 in
set_option maxRecDepth 10000 in
theorem markVersionS_hp (A : Option Addr) (n c m : Nat) (vs : List Ver) (hn : vs.length = n) {w0 w : World} {L : List Ent} (H : Hp w0 w (row 71 4 (.slice A n c) n (vs.flatMap encVer) :: (vs.flatMap verF ++ L))) (h0 : 0 < m) (hm : m + cntV vs ≤ 1125899906842624) :
    Calls Tryd.prog 83 #[.slice A n c, .int .i64 m] w fun e w' => e = .returned (.int .i64 ((m + cntV vs : Nat) : Int)) ∧ Hp w0 w' (row 71 4 (.slice A n c) n ((mkV m vs).flatMap encVer) :: ((mkV m vs).flatMap verF ++ L)) := by
  have hr := H.rdM (t := 71) (k := 4) (A := A) (n := n) (c := c) (xs := vs.flatMap encVer) List.mem_cons_self
  have hc := hr.2.1
  have hmx := hr.2.2.1
  unfold maxLen at hmx
  clear hr
  have HH := Lib.hid H
  go_enter Tryd.func83, Tryd.ntmps83
  go_wp2_with fail
  clear H
  go_loopw [1, 5] (fun lv i wr => ∃ (k l : Nat) (ds : List Ver), k ≤ n ∧ i = .int .i64 k ∧ lv = .int .i64 l ∧ Hid (mkV m vs = ds ++ mkV l (vs.drop k) ∧ ds.length = k) ∧ Hid (m + cntV vs = l + cntV (vs.drop k) ∧ 0 < l) ∧ Hid (Hp w0 wr (row 71 4 (.slice A n c) n (ds.flatMap encVer ++ (vs.drop k).flatMap encVer) :: (ds.flatMap verF ++ ((vs.drop k).flatMap verF ++ L))))) (fun _ i _ => n - (intOf i).toNat)
  case atStart => exact ⟨0, m, [], Nat.zero_le _, rfl, rfl, ⟨rfl, rfl⟩, ⟨rfl, h0⟩, HH⟩
  case round =>
    clear HH
    obtain ⟨k, l, ds, hk, rfl, rfl, HD, HL, HP⟩ := hrel
    have H := HP.out
    by_cases hlt : k < n
    · have hdr : vs.drop k = (vs[k]'(by omega)) :: vs.drop (k + 1) := List.drop_eq_getElem_cons (by omega)
      have hDL := HD.out.2
      obtain ⟨r, HRR⟩ : ∃ r, Hid (vs.drop (k + 1) = r) := ⟨_, rfl⟩
      rw [HRR.out] at hdr
      have HD2 : Hid (mkV m vs = ds ++ mkV l ((vs[k]'(by omega)) :: r)) := by show _ = _; rw [← hdr]; exact HD.out.1
      have HL2 : Hid (m + cntV vs = l + cntV ((vs[k]'(by omega)) :: r) ∧ 0 < l) := by rw [← hdr]; exact HL.out
      rw [hdr] at H
      have HK1 : Hid (k + 1 ≤ n ∧ n - (k + 1) < n - k) := ⟨by omega, by omega⟩
      clear hdr HD HL
      generalize (vs[k]'(by omega)) = v at *
      obtain ⟨data, da, dc, made, gone, dead⟩ := v
      rw [List.flatMap_cons, List.flatMap_cons] at H
      have hown := H.rowM (t := 71) (k := 4) (v := .slice A n c) (n := n) (xs := ds.flatMap encVer ++ (encVer ⟨data, da, dc, made, gone, dead⟩ ++ r.flatMap encVer)) List.mem_cons_self
      obtain ⟨g, rfl⟩ := rowGm hown (by omega)
      have hfl : (ds.flatMap encVer).length = k * 4 := by rw [flat_len4, hDL]
      have HFL := Lib.hid hfl
      have c0 : wr.cell? ⟨g, k * 4, none⟩ = some (.slice da data.length dc) := own_at hown (j := k * 4) (by have := get_off (P := ds.flatMap encVer) (M := encVer ⟨data, da, dc, made, gone, dead⟩ ++ r.flatMap encVer) (j := 0) hfl; rw [Nat.add_zero] at this; rw [this]; rfl)
      have hcn : cntV (⟨data, da, dc, made, gone, dead⟩ :: r) = data.length + 3 + cntV r := rfl
      have hb9 : l + data.length + 3 ≤ 1125899906842624 := by have := HL2.out.1; rw [hcn] at this; omega
      have hl0 := HL2.out.2
      have hk1 : (k : Int) < (n : Int) := by omega
      have hk0 : (0 : Int) ≤ (k : Int) := by omega
      obtain ⟨l1, hl1⟩ : ∃ l1, l1 = l + data.length * 1 := ⟨_, rfl⟩
      obtain ⟨l2, hl2⟩ : ∃ l2, l2 = l1 + 1 := ⟨_, rfl⟩
      obtain ⟨l3, hl3⟩ : ∃ l3, l3 = l1 + 2 := ⟨_, rfl⟩
      obtain ⟨l4, hl4⟩ : ∃ l4, l4 = l1 + 3 := ⟨_, rfl⟩
      have hw1 : IntKind.i64.wrap ((l1 : Int) + 1) = (l2 : Int) := by rw [IntKind.wrap_i64]; omega
      have hw2 : IntKind.i64.wrap ((l2 : Int) + 1) = (l3 : Int) := by rw [IntKind.wrap_i64]; omega
      have hw3 : IntKind.i64.wrap ((l3 : Int) + 1) = (l4 : Int) := by rw [IntKind.wrap_i64]; omega
      have e2 : (l2 : Int).tmod 3 = (l2 : Int) % 3 := Int.tmod_eq_emod_of_nonneg (by omega)
      have e3 : (l3 : Int).tmod 3 = (l3 : Int) % 3 := Int.tmod_eq_emod_of_nonneg (by omega)
      obtain ⟨b2, hb2⟩ : ∃ b2, b2 = decide (l2 % 3 = 0) := ⟨_, rfl⟩
      obtain ⟨b3, hb3⟩ : ∃ b3, b3 = decide (l3 % 3 = 0) := ⟨_, rfl⟩
      have hq2 : decide ((l2 : Int) % 3 = 0) = b2 := by rw [hb2]; exact decide_eq_decide.2 (by omega)
      have hq3 : decide ((l3 : Int) % 3 = 0) = b3 := by rw [hb3]; exact decide_eq_decide.2 (by omega)
      have hp2 : ((l2 : Int) % 3 == 0) = b2 := by rw [← hq2]; rfl
      have hp3 : ((l3 : Int) % 3 == 0) = b3 := by rw [← hq3]; rfl
      have HV : Hid (markV l ⟨data, da, dc, made, gone, dead⟩ = ⟨mkB l data.length, da, dc, (l1 : Int), b2, b3⟩) := by
        show _ = _
        rw [hb2, hb3, hl2, hl3, hl1]
        simp [markV]
      have HL4 : Hid (l4 = l + data.length + 3) := by show _ = _; omega
      have HL1 : Hid (((l + data.length * 1 : Nat) : Int) = (l1 : Int)) := by show _ = _; rw [hl1]
      clear hb2 hb3 hl1 hl2 hl3 hl4 hown hfl hDL hlt
      have H1 : Hp w0 wr ((row 71 4 (.slice (some ⟨g, 0, none⟩) n c) n (ds.flatMap encVer ++ (encVer ⟨data, da, dc, made, gone, dead⟩ ++ r.flatMap encVer)) :: ds.flatMap verF) ++ rByte da dc data :: (r.flatMap verF ++ L)) := by simpa [verF] using H
      clear H
      have hby : l + data.length * 1 ≤ 1125899906842624 := by omega
      go_wp2_with (go_at_call 103; refine (markByteS_hp da data.length dc l _ rfl (data.flatMap encByte) _ w0 _ _ (by repeat (first | (with_reducible exact H1) | (with_reducible apply Hp.alloc) | (with_reducible apply Hp.set) | (with_reducible apply Hp.drew) | (with_reducible apply Hp.drewN) | (with_reducible apply Hp.bytesW) | (with_reducible exact Upd.here) | (with_reducible exact Upd.hereR) | (with_reducible apply Upd.there) | (with_reducible apply Sz.alloc) | (with_reducible apply Sz.set) | (with_reducible apply Sz.drew) | (with_reducible apply Sz.drewN) | (with_reducible apply Sz.bytesW) | (with_reducible assumption) | (with_reducible exact Sz.base _))) rep_mid hl0 hby).mono ?_; rintro e w1 ⟨rfl, H2⟩; rw [HL1.out]; have hown1 := H2.rowM (t := 71) (k := 4) (v := .slice (some ⟨g, 0, none⟩) n c) (n := n) (xs := ds.flatMap encVer ++ (encVer ⟨data, da, dc, made, gone, dead⟩ ++ r.flatMap encVer)) List.mem_cons_self; obtain ⟨v1, hv1, d1⟩ := own_cell hown1 (j := k * 4 + 1) (by omega); have f1 := hown1.frozenAt (k * 4 + 1); obtain ⟨v2, hv2, d2⟩ := own_cell hown1 (j := k * 4 + 2) (by omega); have f2 := hown1.frozenAt (k * 4 + 2); obtain ⟨v3, hv3, d3⟩ := own_cell hown1 (j := k * 4 + 3) (by omega); have f3 := hown1.frozenAt (k * 4 + 3); clear hv1 hv2 hv3 hown1)
      rw [List.cons_append] at H2
      have H3 := Hp.set (b := g) (j := k * 4 + 3) (v := .bool b3) (Hp.set (b := g) (j := k * 4 + 2) (v := .bool b2) (Hp.set (b := g) (j := k * 4 + 1) (v := .int .i64 l1) H2 Upd.hereR) Upd.hereR) Upd.hereR
      rw [set_off HFL.out, set_off HFL.out, set_off HFL.out] at H3
      have HQ : Hid (Hp w0 (((w1.setCell ⟨g, k * 4 + 1, none⟩ (.int .i64 l1)).setCell ⟨g, k * 4 + 2, none⟩ (.bool b2)).setCell ⟨g, k * 4 + 3, none⟩ (.bool b3)) (row 71 4 (.slice (some ⟨g, 0, none⟩) n c) n ((ds ++ [(⟨mkB l data.length, da, dc, (l1 : Int), b2, b3⟩ : Ver)]).flatMap encVer ++ r.flatMap encVer) :: ((ds ++ [(⟨mkB l data.length, da, dc, (l1 : Int), b2, b3⟩ : Ver)]).flatMap verF ++ (r.flatMap verF ++ L)))) := by
        show Hp w0 _ _
        rw [marksByte_mk] at H3
        simpa [encVer, verF, mkB_len, rByte] using H3
      clear H3 H2 H1
      go_roundw
      case rel => exact ⟨k + 1, l4, ds ++ [(⟨mkB l data.length, da, dc, (l1 : Int), b2, b3⟩ : Ver)], HK1.out.1, by go_num, rfl, ⟨by rw [HRR.out, HD2.out, mkV, HV.out, HL4.out]; simp, by rw [List.length_append]; simp; exact (by have := HFL.out; rw [flat_len4] at this; omega)⟩, ⟨by rw [HRR.out, HL2.out.1, hcn, HL4.out]; omega, by rw [HL4.out]; omega⟩, by rw [HRR.out]; exact HQ⟩
      case measure => have := HK1.out.2; simp [intOf]; omega
    · have hkn : k = n := by omega
      have hd0 : vs.drop k = [] := List.drop_eq_nil_of_le (by omega)
      have HR : Hid (mkV m vs = ds) := by show _ = _; rw [HD.out.1, hd0, mkV, List.append_nil]
      have HC : Hid (m + cntV vs = l) := by show _ = _; rw [HL.out.1, hd0, cntV]; omega
      rw [hd0] at H
      clear hd0 hkn
      go_wp2_with fail
      go_ret
      exact ⟨by rw [HC.out]; rfl, by rw [HR.out]; simpa using H⟩
set_option maxHeartbeats 8000000 in
set_option maxRecDepth 10000 in
theorem markEntryS_hp (A : Option Addr) (n c m : Nat) (es : List Entry) (hn : es.length = n) {w0 w : World} {L : List Ent} (H : Hp w0 w (row 62 3 (.slice A n c) n (es.flatMap encEntry) :: (es.flatMap entF ++ L))) (h0 : 0 < m) (hm : m + cntE es ≤ 1125899906842624) :
    Calls Tryd.prog 58 #[.slice A n c, .int .i64 m] w fun e w' => e = .returned (.int .i64 ((m + cntE es : Nat) : Int)) ∧ Hp w0 w' (row 62 3 (.slice A n c) n ((mkE m es).flatMap encEntry) :: ((mkE m es).flatMap entF ++ L)) := by
  have hr := H.rdM (t := 62) (k := 3) (A := A) (n := n) (c := c) (xs := es.flatMap encEntry) List.mem_cons_self
  have hc := hr.2.1
  have hmx := hr.2.2.1
  unfold maxLen at hmx
  clear hr
  have HH := Lib.hid H
  go_enter Tryd.func58, Tryd.ntmps58
  go_wp2_with fail
  clear H
  go_loopw [1, 5] (fun lv i wr => ∃ (k l : Nat) (ds : List Entry), k ≤ n ∧ i = .int .i64 k ∧ lv = .int .i64 l ∧ Hid (mkE m es = ds ++ mkE l (es.drop k) ∧ ds.length = k) ∧ Hid (m + cntE es = l + cntE (es.drop k) ∧ 0 < l) ∧ Hid (Hp w0 wr (row 62 3 (.slice A n c) n (ds.flatMap encEntry ++ (es.drop k).flatMap encEntry) :: (ds.flatMap entF ++ ((es.drop k).flatMap entF ++ L))))) (fun _ i _ => n - (intOf i).toNat)
  case atStart => exact ⟨0, m, [], Nat.zero_le _, rfl, rfl, ⟨rfl, rfl⟩, ⟨rfl, h0⟩, HH⟩
  case round =>
    clear HH
    obtain ⟨k, l, ds, hk, rfl, rfl, HD, HL, HP⟩ := hrel
    have H := HP.out
    by_cases hlt : k < n
    · have hdr : es.drop k = (es[k]'(by omega)) :: es.drop (k + 1) := List.drop_eq_getElem_cons (by omega)
      have hDL := HD.out.2
      obtain ⟨r, HRR⟩ : ∃ r, Hid (es.drop (k + 1) = r) := ⟨_, rfl⟩
      rw [HRR.out] at hdr
      have HD2 : Hid (mkE m es = ds ++ mkE l ((es[k]'(by omega)) :: r)) := by show _ = _; rw [← hdr]; exact HD.out.1
      have HL2 : Hid (m + cntE es = l + cntE ((es[k]'(by omega)) :: r) ∧ 0 < l) := by rw [← hdr]; exact HL.out
      rw [hdr] at H
      have HK1 : Hid (k + 1 ≤ n ∧ n - (k + 1) < n - k) := ⟨by omega, by omega⟩
      clear hdr HD HL
      generalize (es[k]'(by omega)) = v at *
      obtain ⟨path, first, vs, va, vc⟩ := v
      simp only [List.flatMap_cons, List.append_assoc] at H
      have hown := H.rowM (t := 62) (k := 3) (v := .slice A n c) (n := n) (xs := ds.flatMap encEntry ++ (encEntry ⟨path, first, vs, va, vc⟩ ++ r.flatMap encEntry)) List.mem_cons_self
      obtain ⟨g, rfl⟩ := rowGm hown (by omega)
      have hfl : (ds.flatMap encEntry).length = k * 3 := by rw [flat_len3, hDL]
      have HFL := Lib.hid hfl
      have hcn : cntE (⟨path, first, vs, va, vc⟩ :: r) = 2 + cntV vs + cntE r := rfl
      have hb9 : l + 2 + cntV vs ≤ 1125899906842624 := by have := HL2.out.1; rw [hcn] at this; omega
      have hl0 := HL2.out.2
      have hk1 : (k : Int) < (n : Int) := by omega
      have hk0 : (0 : Int) ≤ (k : Int) := by omega
      obtain ⟨l1, hl1⟩ : ∃ l1, l1 = l + 1 := ⟨_, rfl⟩
      obtain ⟨l2, hl2⟩ : ∃ l2, l2 = l + 2 := ⟨_, rfl⟩
      have hw1 : IntKind.i64.wrap ((l : Int) + 1) = (l1 : Int) := by rw [IntKind.wrap_i64]; omega
      have hw2 : IntKind.i64.wrap ((l1 : Int) + 1) = (l2 : Int) := by rw [IntKind.wrap_i64]; omega
      have HV : Hid (markE l ⟨path, first, vs, va, vc⟩ = ⟨mkText l, (l1 : Int), mkV l2 vs, va, vc⟩) := by
        show _ = _
        rw [hl1, hl2]; rfl
      have HL4 : Hid (l2 + cntV vs = l + 2 + cntV vs) := by show _ = _; omega
      have hl20 : 0 < l2 := by omega
      have hb8 : l2 + cntV vs ≤ 1125899906842624 := by omega
      clear hl1 hl2 hown hfl hDL hlt
      have hlt0 : (0 : Int) < (l : Int) := by omega
      have hlt1 : (l : Int) ≤ 1125899906842624 := by omega
      have HTT : Hid (mkText ((l : Int).toNat) = mkText l) := by show _ = _; rw [Int.toNat_natCast]
      go_wp2_with ((go_at_call 59; refine (markText_any (l : Int) _ hlt0 hlt1).mono ?_; rintro e w1 ⟨rfl, q1⟩; rw [HTT.out]; replace H := Hp.step (by repeat (first | (with_reducible exact H) | (with_reducible apply Hp.alloc) | (with_reducible apply Hp.set) | (with_reducible apply Hp.drew) | (with_reducible apply Hp.drewN) | (with_reducible apply Hp.bytesW) | (with_reducible exact Upd.here) | (with_reducible exact Upd.hereR) | (with_reducible apply Upd.there) | (with_reducible apply Sz.alloc) | (with_reducible apply Sz.set) | (with_reducible apply Sz.drew) | (with_reducible apply Sz.drewN) | (with_reducible apply Sz.bytesW) | (with_reducible assumption) | (with_reducible exact Sz.base _))) q1; have hown1 := H.rowM (t := 62) (k := 3) (v := .slice (some ⟨g, 0, none⟩) n c) (n := n) (xs := ds.flatMap encEntry ++ (encEntry ⟨path, first, vs, va, vc⟩ ++ r.flatMap encEntry)) List.mem_cons_self; have c2 : w1.cell? ⟨g, k * 3 + 2, none⟩ = some (.slice va vs.length vc) := (own_at hown1 (j := k * 3 + 2) (by rw [get_off HFL.out]; rfl)); obtain ⟨v0, hv0, d0⟩ := own_cell hown1 (j := k * 3 + 0) (by omega); have f0 := hown1.frozenAt (k * 3 + 0); obtain ⟨v1, hv1, d1⟩ := own_cell hown1 (j := k * 3 + 1) (by omega); have f1 := hown1.frozenAt (k * 3 + 1); simp only [Nat.add_zero] at d0 f0; clear hv0 hv1 hown1 q1))
      have H3 := Hp.set (b := g) (j := k * 3 + 1) (v := .int .i64 l1) (Hp.set (b := g) (j := k * 3 + 0) (v := .string (mkText l)) H Upd.hereR) Upd.hereR
      rw [set_off HFL.out, set_off HFL.out] at H3
      have H4 := H3.perm (List.perm_append_comm_assoc (entF ⟨path, first, vs, va, vc⟩) (_ :: ds.flatMap entF) (r.flatMap entF ++ L))
      clear H3 H
      have H5' : Hp w0 ((w1.setCell ⟨g, k * 3, none⟩ (.string (mkText l))).setCell ⟨g, k * 3 + 1, none⟩ (.int .i64 l1)) (row 71 4 (.slice va vs.length vc) vs.length (vs.flatMap encVer) :: (vs.flatMap verF ++ (row 62 3 (.slice (some ⟨g, 0, none⟩) n c) n (ds.flatMap encEntry ++ ([.string (mkText l), .int .i64 l1, .slice va vs.length vc] ++ r.flatMap encEntry)) :: (ds.flatMap entF ++ (r.flatMap entF ++ L))))) := by simpa [entF, versE, encEntry] using H4
      clear H4
      go_at_call 83
      refine (markVersionS_hp va vs.length vc l2 vs rfl H5' hl20 hb8).mono ?_
      rintro e w2 ⟨rfl, H5⟩
      have HQ : Hid (Hp w0 w2 (row 62 3 (.slice (some ⟨g, 0, none⟩) n c) n ((ds ++ [(⟨mkText l, (l1 : Int), mkV l2 vs, va, vc⟩ : Entry)]).flatMap encEntry ++ r.flatMap encEntry) :: ((ds ++ [(⟨mkText l, (l1 : Int), mkV l2 vs, va, vc⟩ : Entry)]).flatMap entF ++ (r.flatMap entF ++ L)))) := by
        show Hp w0 _ _
        have H6 := H5.perm (List.perm_append_comm_assoc (row 62 3 (.slice (some ⟨g, 0, none⟩) n c) n ((ds ++ [(⟨mkText l, (l1 : Int), mkV l2 vs, va, vc⟩ : Entry)]).flatMap encEntry ++ r.flatMap encEntry) :: ds.flatMap entF) (row 71 4 (.slice va vs.length vc) vs.length ((mkV l2 vs).flatMap encVer) :: (mkV l2 vs).flatMap verF) (r.flatMap entF ++ L) |>.trans (by simp [encEntry, mkV_len]))
        simpa [entF, versE, mkV_len] using H6
      go_wp2_with fail
      go_roundw
      case rel => exact ⟨k + 1, l2 + cntV vs, ds ++ [(⟨mkText l, (l1 : Int), mkV l2 vs, va, vc⟩ : Entry)], HK1.out.1, by go_num, rfl, ⟨by rw [HRR.out, HD2.out, mkE, HV.out, HL4.out]; simp, by rw [List.length_append]; simp; exact (by have := HFL.out; rw [flat_len3] at this; omega)⟩, ⟨by rw [HRR.out, HL2.out.1, hcn, HL4.out]; omega, by omega⟩, by rw [HRR.out]; exact HQ⟩
      case measure => have := HK1.out.2; simp [intOf]; omega
    · have hkn : k = n := by omega
      have hd0 : es.drop k = [] := List.drop_eq_nil_of_le (by omega)
      have HR : Hid (mkE m es = ds) := by show _ = _; rw [HD.out.1, hd0, mkE, List.append_nil]
      have HC : Hid (m + cntE es = l) := by show _ = _; rw [HL.out.1, hd0, cntE]; omega
      rw [hd0] at H
      clear hd0 hkn
      go_wp2_with fail
      go_ret
      exact ⟨by rw [HC.out]; rfl, by rw [HR.out]; simpa using H⟩
end Go.Proofs.YtklmcbabpncfmaaDoor
namespace Go.Proofs.YtklmcbabpncfmaaDoor
open Go.RowKit
set_option linter.unusedVariables false
set_option linter.unusedSimpArgs false
/-- A store's whole footprint as one entry. -/
def stoR (A : Option Addr) (c n : Nat) (es : List Entry) : List Ent := row 62 3 (.slice A n c) n (es.flatMap encEntry) :: es.flatMap entF
def stoE (A : Option Addr) (c n : Nat) (es : List Entry) : Ent := bund (stoR A c n es)
theorem mid_perm {T D : List Ent} {b : Ent} : List.Perm ((T ++ D) ++ [b]) (T ++ b :: D) := by
  rw [List.append_assoc]; exact List.Perm.append_left T (List.perm_append_singleton b D)
theorem rep_form {L L' : List Ent} {e e' : Ent} (h : Rep L e e' L') : ∃ T D, L = T ++ e :: D ∧ L' = T ++ e' :: D := by
  obtain ⟨i, hi, rfl⟩ := h
  obtain ⟨h1, h2⟩ := List.getElem?_eq_some_iff.1 hi
  refine ⟨L.take i, L.drop (i + 1), ?_, ?_⟩
  · rw [← h2, ← List.drop_eq_getElem_cons h1, List.take_append_drop]
  · rw [List.set_eq_take_append_cons_drop, if_pos h1]
theorem bund_focus {w0 w : World} {L L' R R' : List Ent} (H : Hp w0 w L) (hr : Rep L (bund R) (bund R') L') : ∃ M, Hp w0 w (R ++ M) ∧ ∀ w', Hp w0 w' (R' ++ M) → Hp w0 w' L' := by
  obtain ⟨T, D, rfl, rfl⟩ := rep_form hr
  refine ⟨T ++ D, ?_, fun w' h => ?_⟩
  · exact (Hp.unpack (T ++ D) R (H.perm mid_perm)).perm List.perm_append_comm
  · exact (Hp.pack (T ++ D) R' (h.perm List.perm_append_comm)).perm mid_perm.symm
theorem stoE_rd {w0 w : World} {L : List Ent} {A : Option Addr} {c n : Nat} {es : List Entry} (H : Hp w0 w L) (hm : stoE A c n es ∈ L) : Rd w w.heap.size 3 A n c (es.flatMap encEntry) ∧ ∀ e ∈ es, DE 0 w e := by
  have hp : (∀ e ∈ stoR A c n es, e.P w) ∧ (stoR A c n es).Pairwise apart := (H.ok _ hm).p
  have h1 : w.ownsRow 0 62 3 (.slice A n c) n (es.flatMap encEntry) := hp.1 _ List.mem_cons_self
  refine ⟨own_rdn h1, fun e he => ?_⟩
  have hin : ∀ x ∈ entF e, x.P w := fun x hx => hp.1 x (List.mem_cons_of_mem _ (List.mem_flatMap.2 ⟨e, he, hx⟩))
  have h2 : w.ownsRow 0 71 4 (.slice e.va e.vs.length e.vc) e.vs.length (e.vs.flatMap encVer) := hin _ List.mem_cons_self
  refine ⟨⟨own_rdn h2, fun a ha => Nat.zero_le _⟩, fun v hv => ?_⟩
  have h3 : w.ownsRow 0 5 1 (.slice v.da v.data.length v.dc) v.data.length (v.data.flatMap encByte) := hin (rByte v.da v.dc v.data) (List.mem_cons_of_mem _ (List.mem_flatMap.2 ⟨v, hv, List.mem_singleton.2 rfl⟩))
  exact ⟨own_rdn h3, fun a ha => Nat.zero_le _⟩
set_option maxHeartbeats 2000000 in
theorem toStoreP_hp (A : Option Addr) (n c : Nat) (us : List Entry) (w : World) (hr : Rd w w.heap.size 3 A n c (us.flatMap encEntry)) (hn : us.length = n) (hb20 : n ≤ 1048576) (hd : ∀ u ∈ us, DE 0 w u) (hvl : ∀ u ∈ us, u.vs.length ≤ 1048576) (hdl : ∀ u ∈ us, ∀ v ∈ u.vs, v.data.length ≤ 1048576) :
    Calls Tryd.prog 21 #[.agg #[.slice A n c]] w fun e w' => ∃ A' c', ∃ vs : List Entry, e = .returned (.agg #[.slice A' n c']) ∧ vs.map plE = us.map plE ∧ vs.length = n ∧ Hp w w' [stoE A' c' n vs] := by
  have H := Hp.nil w
  go_enter Tryd.func21, Tryd.ntmps21
  go_wp2_with (go_at_call 56; refine (toEntryS_hp A n c us _ (hr.grow (Hp.b (by repeat (first | (with_reducible exact H) | (with_reducible apply Hp.alloc) | (with_reducible apply Hp.set) | (with_reducible apply Hp.drew) | (with_reducible apply Hp.drewN) | (with_reducible apply Hp.bytesW) | (with_reducible exact Upd.here) | (with_reducible exact Upd.hereR) | (with_reducible apply Upd.there) | (with_reducible apply Sz.alloc) | (with_reducible apply Sz.set) | (with_reducible apply Sz.drew) | (with_reducible apply Sz.drewN) | (with_reducible apply Sz.bytesW) | (with_reducible assumption) | (with_reducible exact Sz.base _))))) hn hb20 (fun u hu => (hd u hu).step (Hp.b (by repeat (first | (with_reducible exact H) | (with_reducible apply Hp.alloc) | (with_reducible apply Hp.set) | (with_reducible apply Hp.drew) | (with_reducible apply Hp.drewN) | (with_reducible apply Hp.bytesW) | (with_reducible exact Upd.here) | (with_reducible exact Upd.hereR) | (with_reducible apply Upd.there) | (with_reducible apply Sz.alloc) | (with_reducible apply Sz.set) | (with_reducible apply Sz.drew) | (with_reducible apply Sz.drewN) | (with_reducible apply Sz.bytesW) | (with_reducible assumption) | (with_reducible exact Sz.base _))))) hvl hdl).mono ?_; rintro e w1 ⟨A', c', vs, rfl, hp, hl, h1⟩; replace H := (Hp.call (by repeat (first | (with_reducible exact H) | (with_reducible apply Hp.alloc) | (with_reducible apply Hp.set) | (with_reducible apply Hp.drew) | (with_reducible apply Hp.drewN) | (with_reducible apply Hp.bytesW) | (with_reducible exact Upd.here) | (with_reducible exact Upd.hereR) | (with_reducible apply Upd.there) | (with_reducible apply Sz.alloc) | (with_reducible apply Sz.set) | (with_reducible apply Sz.drew) | (with_reducible apply Sz.drewN) | (with_reducible apply Sz.bytesW) | (with_reducible assumption) | (with_reducible exact Sz.base _))) h1).perm List.perm_append_comm; (try simp only [List.set_cons_zero, List.set_cons_succ, List.cons_append, List.nil_append] at H); clear h1; have F := H.facts; simp only [Facts, NeF, box, row, reg, cellsF, ne_eq, true_and, and_true, Nat.reduceAdd, Nat.zero_add] at F)
  refine bodyPost_ret (v := .agg #[.slice A' n c']) (by simp [results, Tryd.results21, go_sem, F] <;> omega) rfl ⟨A', c', vs, rfl, hp, hl, ?_⟩
  refine Hp.pack [] (stoR A' c' n vs) ?_
  exact Hp.tails (by repeat (first | (with_reducible exact H) | (with_reducible apply Hp.alloc) | (with_reducible apply Hp.set) | (with_reducible apply Hp.drew) | (with_reducible apply Hp.drewN) | (with_reducible apply Hp.bytesW) | (with_reducible exact Upd.here) | (with_reducible exact Upd.hereR) | (with_reducible apply Upd.there) | (with_reducible apply Sz.alloc) | (with_reducible apply Sz.set) | (with_reducible apply Sz.drew) | (with_reducible apply Sz.drewN) | (with_reducible apply Sz.bytesW) | (with_reducible assumption) | (with_reducible exact Sz.base _))) (by repeat (first | exact Tl.here | apply Tl.there))
set_option maxHeartbeats 2000000 in
theorem markStoreP_hp (A : Option Addr) (n c m : Nat) (mi : Int) (hmi : mi = (m : Int)) (es : List Entry) (hn : es.length = n) {w0 w : World} {L L' : List Ent} (H : Hp w0 w L) (hr : Rep L (stoE A c n es) (stoE A c n (mkE m es)) L') (h0 : 0 < m) (hm : m + cntE es ≤ 1125899906842624) :
    Calls Tryd.prog 24 #[.agg #[.slice A n c], .int .i64 mi] w fun e w' => e = .returned (.int .i64 ((m + cntE es : Nat) : Int)) ∧ Hp w0 w' L' := by
  subst hmi
  go_enter Tryd.func24, Tryd.ntmps24
  go_wp2_with fail
  obtain ⟨M, H2, hb⟩ := bund_focus H hr
  refine (markEntryS_hp A n c m es hn (L := M) (w0 := w0) ?_ h0 hm).mono ?_
  · exact (Hp.tails (by repeat (first | (with_reducible exact H2) | (with_reducible apply Hp.alloc) | (with_reducible apply Hp.set) | (with_reducible apply Hp.drew) | (with_reducible apply Hp.drewN) | (with_reducible apply Hp.bytesW) | (with_reducible exact Upd.here) | (with_reducible exact Upd.hereR) | (with_reducible apply Upd.there) | (with_reducible apply Sz.alloc) | (with_reducible apply Sz.set) | (with_reducible apply Sz.drew) | (with_reducible apply Sz.drewN) | (with_reducible apply Sz.bytesW) | (with_reducible assumption) | (with_reducible exact Sz.base _))) (by repeat (first | exact Tl.here | apply Tl.there)))
  rintro e w1 ⟨rfl, H3⟩
  go_wp2_with fail
  go_ret
  exact ⟨rfl, hb _ H3⟩
end Go.Proofs.YtklmcbabpncfmaaDoor
namespace Go.Proofs.YtklmcbabpncfmaaDoor
open Go.RowKit
set_option linter.unusedVariables false
set_option linter.unusedSimpArgs false
theorem mkV_drop {m l k : Nat} {us : List Ver} {u : Ver} {r : List Ver} (h : (mkV m us).drop k = mkV l (u :: r)) : (mkV m us)[k]? = some (markV l u) ∧ (mkV m us).drop (k + 1) = mkV (l + u.data.length + 3) r := by
  rw [mkV] at h
  constructor
  · have := congrArg (·[0]?) h
    simpa [List.getElem?_drop] using this
  · have := congrArg List.tail h
    rw [List.tail_drop] at this
    simpa using this
theorem mkE_drop {m l k : Nat} {us : List Entry} {u : Entry} {r : List Entry} (h : (mkE m us).drop k = mkE l (u :: r)) : (mkE m us)[k]? = some (markE l u) ∧ (mkE m us).drop (k + 1) = mkE (l + 2 + cntV u.vs) r := by
  rw [mkE] at h
  constructor
  · have := congrArg (·[0]?) h
    simpa [List.getElem?_drop] using this
  · have := congrArg List.tail h
    rw [List.tail_drop] at this
    simpa using this
end Go.Proofs.YtklmcbabpncfmaaDoor

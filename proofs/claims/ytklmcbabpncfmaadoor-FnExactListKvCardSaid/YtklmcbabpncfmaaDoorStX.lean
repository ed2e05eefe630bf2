/- Stores whose versions may lie behind the head of their block: as footprints, read, marked. No condition. -/
import Derived.Test.YtklmcbabpncfmaaDoorM5
namespace Go.Proofs.YtklmcbabpncfmaaDoor
open Go.RowKit
set_option linter.unusedVariables false
set_option linter.unusedSimpArgs false
/-- A slice of the call's own, perhaps behind p elements of its block. -/
def rowxP (t : TypeId) (k : Nat) (A : Option Addr) (n c : Nat) (xs : List Value) (w : World) : Prop :=
  w.ownsRow 0 t k (.slice A n c) n xs ∨ ∃ (g p : Nat) (pre : List Value), A = some ⟨g, p * k, none⟩ ∧ pre.length = p * k ∧ w.ownsRow 0 t k (.slice (some ⟨g, 0, none⟩) (p + n) (p + c)) (p + n) (pre ++ xs)
theorem rowx_loc {t : TypeId} {k n c : Nat} {A : Option Addr} {xs : List Value} (w w' : World) (h : ∀ b, (Value.slice A n c).ownBlock = some b → w'.heap[b]? = w.heap[b]?) (hp : rowxP t k A n c xs w) : rowxP t k A n c xs w' := by
  rcases hp with hp | ⟨g, p, pre, rfl, h1, h2⟩
  · exact .inl (row_loc w w' h hp)
  · exact .inr ⟨g, p, pre, rfl, h1, row_loc w w' (fun b hb => h b hb) h2⟩
def rowx (t : TypeId) (k : Nat) (A : Option Addr) (n c : Nat) (xs : List Value) : Ent :=
  ⟨fun g => (Value.slice A n c).ownBlock = some g, rowxP t k A n c xs, rowx_loc, none, fun _ => True, fun _ _ => trivial, fun _ h => by cases h⟩
section
variable {w w0 : World} {t : TypeId} {k n c g o : Nat} {A : Option Addr} {xs : List Value} {L : List Ent}
theorem Hp.rowxM (H : Hp w0 w L) (h : rowx t k A n c xs ∈ L) : rowxP t k A n c xs w := (H.ok _ h).p
theorem rowx_at (h : rowxP t k (some ⟨g, o, none⟩) n c xs w) : ∃ (p : Nat) (pre : List Value), pre.length = o ∧ o = p * k ∧ w.ownsRow 0 t k (.slice (some ⟨g, 0, none⟩) (p + n) (p + c)) (p + n) (pre ++ xs) := by
  rcases h with h | ⟨g', p, pre, e, hp, h⟩
  · have e : (some (⟨g, o, none⟩ : Addr)) = some ⟨g, 0, none⟩ := by
      rcases h.2 with ⟨e1, _⟩ | ⟨g2, cap, cur, e1, _⟩
      · cases e1
      · injection e1 with e1 _ _; injection e1 with e1; injection e1 with e1 e2; subst e1 e2; rfl
    injection e with e; injection e with _ e; subst e
    exact ⟨0, [], rfl, by simp, by simpa using h⟩
  · injection e with e; injection e with e1 e2; subst e1 e2
    exact ⟨p, pre, hp, rfl, h⟩
theorem rowxGm (h : rowxP t k A n c xs w) (h0 : 0 < n) : ∃ g o, A = some ⟨g, o, none⟩ := by
  rcases h with h | ⟨g, p, pre, e, -⟩
  · obtain ⟨g, e⟩ := rowGm h h0; exact ⟨g, 0, e⟩
  · exact ⟨g, p * k, e⟩
theorem rowx_cell (h : rowxP t k (some ⟨g, o, none⟩) n c xs w) {j : Nat} {v : Value} (hv : xs[j]? = some v) : w.cell? ⟨g, o + j, none⟩ = some v := by
  obtain ⟨p, pre, hp, -, h1⟩ := rowx_at h
  exact own_at h1 (j := o + j) (by rw [get_off hp]; exact hv)
theorem rowx_some (h : rowxP t k (some ⟨g, o, none⟩) n c xs w) {i j : Nat} (hj : i + j < n * k) : ∃ u, w.cell? ⟨g, o + i + j, none⟩ = some u := by
  obtain ⟨p, pre, hp, hpk, h1⟩ := rowx_at h
  have hl := h1.1
  rw [List.length_append, Nat.add_mul, hp, hpk] at hl
  have h2 : i + j < xs.length := by omega
  refine ⟨xs[i + j], ?_⟩
  rw [Nat.add_assoc]
  exact rowx_cell h (List.getElem?_eq_getElem h2)
theorem rowx_frozen (h : rowxP t k (some ⟨g, o, none⟩) n c xs w) (i j : Nat) : w.frozen? ⟨g, o + i + j, none⟩ = false := by
  obtain ⟨p, pre, hp, -, h1⟩ := rowx_at h
  exact h1.frozenAt (o + i + j)
theorem rowx_rd (h : rowxP t k A n c xs w) : Rd w w.heap.size k A n c xs := by
  rcases h with h | ⟨g, p, pre, rfl, hp, h⟩
  · exact own_rdn h
  · have h1 := own_rdn h
    have hl := h1.1
    rw [List.length_append, Nat.add_mul, hp] at hl
    have hc := h1.2.1
    have hm := h1.2.2.1
    refine ⟨by omega, by omega, by omega, fun h0 => ?_⟩
    obtain ⟨b, off, e, hb, hcell⟩ := h1.2.2.2 (by omega)
    injection e with e; injection e with e1 e2; subst e1 e2
    refine ⟨g, p * k, rfl, hb, fun j u hu => ?_⟩
    have := hcell (p * k + j) u (by rw [get_off hp]; exact hu)
    rwa [Nat.zero_add] at this
theorem Upd.hereX {i j : Nat} {v : Value} : Upd (rowx t k (some ⟨g, o, none⟩) n c xs :: L) g (o + i + j) v (rowx t k (some ⟨g, o, none⟩) n c (xs.set (i + j) v) :: L) := by
  refine ⟨0, _, _, rfl, rfl, rfl, fun x h => h, fun w h => ?_⟩
  obtain ⟨p, pre, hp, hpk, h1⟩ := rowx_at (h : rowxP t k (some ⟨g, o, none⟩) n c xs w)
  have h2 := (World.ownsRow.stored h1 (o + i + j) v).1
  rw [Nat.add_assoc, set_off hp] at h2
  rw [Nat.add_assoc]
  refine .inr ⟨g, p, pre, by rw [hpk], by rw [hp, hpk], h2⟩
end
def versX (A : Option Addr) (c : Nat) (vs : List Ver) : List Ent := rowx 71 4 A vs.length c (vs.flatMap encVer) :: vs.flatMap verF
def entX (e : Entry) : List Ent := versX e.va e.vc e.vs
def stoXR (A : Option Addr) (c n : Nat) (es : List Entry) : List Ent := row 62 3 (.slice A n c) n (es.flatMap encEntry) :: es.flatMap entX
def stoX (A : Option Addr) (c n : Nat) (es : List Entry) : Ent := bund (stoXR A c n es)
theorem stoX_rd {w0 w : World} {L : List Ent} {A : Option Addr} {c n : Nat} {es : List Entry} (H : Hp w0 w L) (hm : stoX A c n es ∈ L) : Rd w w.heap.size 3 A n c (es.flatMap encEntry) ∧ ∀ e ∈ es, DE 0 w e := by
  have hp : (∀ e ∈ stoXR A c n es, e.P w) ∧ (stoXR A c n es).Pairwise apart := (H.ok _ hm).p
  have h1 : w.ownsRow 0 62 3 (.slice A n c) n (es.flatMap encEntry) := hp.1 _ List.mem_cons_self
  refine ⟨own_rdn h1, fun e he => ?_⟩
  have hin : ∀ x ∈ entX e, x.P w := fun x hx => hp.1 x (List.mem_cons_of_mem _ (List.mem_flatMap.2 ⟨e, he, hx⟩))
  have h2 : rowxP 71 4 e.va e.vs.length e.vc (e.vs.flatMap encVer) w := hin _ List.mem_cons_self
  refine ⟨⟨rowx_rd h2, fun a ha => Nat.zero_le _⟩, fun v hv => ?_⟩
  have h3 : w.ownsRow 0 5 1 (.slice v.da v.data.length v.dc) v.data.length (v.data.flatMap encByte) := hin (rByte v.da v.dc v.data) (List.mem_cons_of_mem _ (List.mem_flatMap.2 ⟨v, hv, List.mem_singleton.2 rfl⟩))
  exact ⟨own_rdn h3, fun a ha => Nat.zero_le _⟩
/-! ### entries seen as weaker ones -/
inductive Wk (w : World) : List Ent → List Ent → Prop
  | nil : Wk w [] []
  | cons {e e' : Ent} {L L' : List Ent} : (∀ b, e'.S b → e.S b) → (e.P w → e'.P w) → Wk w L L' → Wk w (e :: L) (e' :: L')
theorem Wk.refl {w : World} : ∀ L : List Ent, Wk w L L
  | [] => .nil
  | _ :: L => .cons (fun _ h => h) (fun h => h) (Wk.refl L)
theorem Wk.append {w : World} {L L' R R' : List Ent} (h : Wk w L L') (h2 : Wk w R R') : Wk w (L ++ R) (L' ++ R') := by
  induction h with
  | nil => exact h2
  | cons h3 h4 _ ih => exact .cons h3 h4 ih
theorem Wk.mem {w : World} {L L' : List Ent} (h : Wk w L L') : ∀ e' ∈ L', ∃ e ∈ L, (∀ b, e'.S b → e.S b) ∧ (e.P w → e'.P w) := by
  induction h with
  | nil => intro e' he; cases he
  | cons h3 h4 _ ih =>
    intro e' he
    rcases List.mem_cons.1 he with rfl | he
    · exact ⟨_, List.mem_cons_self, h3, h4⟩
    · obtain ⟨e, h5, h6⟩ := ih e' he
      exact ⟨e, List.mem_cons_of_mem _ h5, h6⟩
theorem Wk.pair {w : World} {L L' : List Ent} (h : Wk w L L') (hp : L.Pairwise apart) : L'.Pairwise apart := by
  induction h with
  | nil => exact hp
  | cons h3 h4 h5 ih =>
    obtain ⟨h6, h7⟩ := List.pairwise_cons.1 hp
    refine List.pairwise_cons.2 ⟨fun e' he b hb hb' => ?_, ih h7⟩
    obtain ⟨e, h8, h9, -⟩ := h5.mem e' he
    exact h6 e h8 b (h3 b hb) (h9 b hb')
theorem Hp.weak {w0 w : World} {L L' : List Ent} (H : Hp w0 w L) (h : Wk w L L') : Hp w0 w L' := by
  refine ⟨H.b, fun e' he => ?_, h.pair H.ap⟩
  obtain ⟨e, h1, h2, h3⟩ := h.mem e' he
  exact ⟨h3 (H.ok e h1).p, fun b hb => (H.ok e h1).lt b (h2 b hb)⟩
theorem wk_ent {w : World} : ∀ es : List Entry, Wk w (es.flatMap entF) (es.flatMap entX)
  | [] => .nil
  | e :: es => by
    rw [List.flatMap_cons, List.flatMap_cons]
    exact Wk.append (Wk.cons (fun _ h => h) (fun h => Or.inl h) (Wk.refl _)) (wk_ent es)
theorem Hp.toX {w0 w : World} {A : Option Addr} {c n : Nat} {es : List Entry} (H : Hp w0 w [stoE A c n es]) : Hp w0 w [stoX A c n es] :=
  Hp.pack [] _ (Hp.weak (Hp.unpack [] (stoR A c n es) H) (Wk.cons (fun _ h => h) (fun h => h) (wk_ent es)))
set_option maxHeartbeats 8000000 in
set_option maxRecDepth 10000 in
theorem markVersionX_hp (A : Option Addr) (n c m : Nat) (vs : List Ver) (hn : vs.length = n) {w0 w : World} {L : List Ent} (H : Hp w0 w (rowx 71 4 A n c (vs.flatMap encVer) :: (vs.flatMap verF ++ L))) (h0 : 0 < m) (hm : m + cntV vs ≤ 1125899906842624) :
    Calls Tryd.prog 83 #[.slice A n c, .int .i64 m] w fun e w' => e = .returned (.int .i64 ((m + cntV vs : Nat) : Int)) ∧ Hp w0 w' (rowx 71 4 A n c ((mkV m vs).flatMap encVer) :: ((mkV m vs).flatMap verF ++ L)) := by
  have hr := rowx_rd (H.rowxM (t := 71) (k := 4) (A := A) (n := n) (c := c) (xs := vs.flatMap encVer) List.mem_cons_self)
  have hc := hr.2.1
  have hmx := hr.2.2.1
  unfold maxLen at hmx
  clear hr
  have HH := Lib.hid H
  go_enter Tryd.func83, Tryd.ntmps83
  go_wp2_with fail
  clear H
  go_loopw [1, 5] (fun lv i wr => ∃ (k l : Nat) (ds : List Ver), k ≤ n ∧ i = .int .i64 k ∧ lv = .int .i64 l ∧ Hid (mkV m vs = ds ++ mkV l (vs.drop k) ∧ ds.length = k) ∧ Hid (m + cntV vs = l + cntV (vs.drop k) ∧ 0 < l) ∧ Hid (Hp w0 wr (rowx 71 4 A n c (ds.flatMap encVer ++ (vs.drop k).flatMap encVer) :: (ds.flatMap verF ++ ((vs.drop k).flatMap verF ++ L))))) (fun _ i _ => n - (intOf i).toNat)
  case atStart => exact ⟨0, m, [], Nat.zero_le _, rfl, rfl, ⟨rfl, rfl⟩, ⟨rfl, h0⟩, HH⟩
  case round =>
    clear HH
    obtain ⟨k, l, ds, hk, rfl, rfl, HD, HL, HP⟩ := hrel
    have H := HP.out
    by_cases hlt : k < n
    · have hdr : vs.drop k = (vs[k]'(by omega)) :: vs.drop (k + 1) := List.drop_eq_getElem_cons (by omega)
      have hDL := HD.out.2
      obtain ⟨r, HRR⟩ : ∃ r, Hid (vs.drop (k + 1) = r) := ⟨_, rfl⟩
      rw [HRR.out] at hdr
      have HD2 : Hid (mkV m vs = ds ++ mkV l ((vs[k]'(by omega)) :: r)) := by show _ = _; rw [← hdr]; exact HD.out.1
      have HL2 : Hid (m + cntV vs = l + cntV ((vs[k]'(by omega)) :: r) ∧ 0 < l) := by rw [← hdr]; exact HL.out
      rw [hdr] at H
      have HK1 : Hid (k + 1 ≤ n ∧ n - (k + 1) < n - k) := ⟨by omega, by omega⟩
      clear hdr HD HL
      generalize (vs[k]'(by omega)) = v at *
      obtain ⟨data, da, dc, made, gone, dead⟩ := v
      rw [List.flatMap_cons, List.flatMap_cons] at H
      have hown := H.rowxM (t := 71) (k := 4) (A := A) (c := c) (n := n) (xs := ds.flatMap encVer ++ (encVer ⟨data, da, dc, made, gone, dead⟩ ++ r.flatMap encVer)) List.mem_cons_self
      obtain ⟨g, o, rfl⟩ := rowxGm hown (by omega)
      have hfl : (ds.flatMap encVer).length = k * 4 := by rw [flat_len4, hDL]
      have HFL := Lib.hid hfl
      have c0 : wr.cell? ⟨g, o + k * 4, none⟩ = some (.slice da data.length dc) := rowx_cell hown (j := k * 4) (by have := get_off (P := ds.flatMap encVer) (M := encVer ⟨data, da, dc, made, gone, dead⟩ ++ r.flatMap encVer) (j := 0) hfl; rw [Nat.add_zero] at this; rw [this]; rfl)
      have hcn : cntV (⟨data, da, dc, made, gone, dead⟩ :: r) = data.length + 3 + cntV r := rfl
      have hb9 : l + data.length + 3 ≤ 1125899906842624 := by have := HL2.out.1; rw [hcn] at this; omega
      have hl0 := HL2.out.2
      have hk1 : (k : Int) < (n : Int) := by omega
      have hk0 : (0 : Int) ≤ (k : Int) := by omega
      obtain ⟨l1, hl1⟩ : ∃ l1, l1 = l + data.length * 1 := ⟨_, rfl⟩
      obtain ⟨l2, hl2⟩ : ∃ l2, l2 = l1 + 1 := ⟨_, rfl⟩
      obtain ⟨l3, hl3⟩ : ∃ l3, l3 = l1 + 2 := ⟨_, rfl⟩
      obtain ⟨l4, hl4⟩ : ∃ l4, l4 = l1 + 3 := ⟨_, rfl⟩
      have hw1 : IntKind.i64.wrap ((l1 : Int) + 1) = (l2 : Int) := by rw [IntKind.wrap_i64]; omega
      have hw2 : IntKind.i64.wrap ((l2 : Int) + 1) = (l3 : Int) := by rw [IntKind.wrap_i64]; omega
      have hw3 : IntKind.i64.wrap ((l3 : Int) + 1) = (l4 : Int) := by rw [IntKind.wrap_i64]; omega
      have e2 : (l2 : Int).tmod 3 = (l2 : Int) % 3 := Int.tmod_eq_emod_of_nonneg (by omega)
      have e3 : (l3 : Int).tmod 3 = (l3 : Int) % 3 := Int.tmod_eq_emod_of_nonneg (by omega)
      obtain ⟨b2, hb2⟩ : ∃ b2, b2 = decide (l2 % 3 = 0) := ⟨_, rfl⟩
      obtain ⟨b3, hb3⟩ : ∃ b3, b3 = decide (l3 % 3 = 0) := ⟨_, rfl⟩
      have hq2 : decide ((l2 : Int) % 3 = 0) = b2 := by rw [hb2]; exact decide_eq_decide.2 (by omega)
      have hq3 : decide ((l3 : Int) % 3 = 0) = b3 := by rw [hb3]; exact decide_eq_decide.2 (by omega)
      have hp2 : ((l2 : Int) % 3 == 0) = b2 := by rw [← hq2]; rfl
      have hp3 : ((l3 : Int) % 3 == 0) = b3 := by rw [← hq3]; rfl
      have HV : Hid (markV l ⟨data, da, dc, made, gone, dead⟩ = ⟨mkB l data.length, da, dc, (l1 : Int), b2, b3⟩) := by
        show _ = _
        rw [hb2, hb3, hl2, hl3, hl1]
        simp [markV]
      have HL4 : Hid (l4 = l + data.length + 3) := by show _ = _; omega
      have HL1 : Hid (((l + data.length * 1 : Nat) : Int) = (l1 : Int)) := by show _ = _; rw [hl1]
      clear hb2 hb3 hl1 hl2 hl3 hl4 hown hfl hDL hlt
      have H1 : Hp w0 wr ((rowx 71 4 (some ⟨g, o, none⟩) n c (ds.flatMap encVer ++ (encVer ⟨data, da, dc, made, gone, dead⟩ ++ r.flatMap encVer)) :: ds.flatMap verF) ++ rByte da dc data :: (r.flatMap verF ++ L)) := by simpa [verF] using H
      clear H
      have hby : l + data.length * 1 ≤ 1125899906842624 := by omega
      go_wp2_with (go_at_call 103; refine (markByteS_hp da data.length dc l _ rfl (data.flatMap encByte) _ w0 _ _ (by repeat (first | (with_reducible exact H1) | (with_reducible apply Hp.alloc) | (with_reducible apply Hp.set) | (with_reducible apply Hp.drew) | (with_reducible apply Hp.drewN) | (with_reducible apply Hp.bytesW) | (with_reducible exact Upd.here) | (with_reducible exact Upd.hereR) | (with_reducible apply Upd.there) | (with_reducible apply Sz.alloc) | (with_reducible apply Sz.set) | (with_reducible apply Sz.drew) | (with_reducible apply Sz.drewN) | (with_reducible apply Sz.bytesW) | (with_reducible assumption) | (with_reducible exact Sz.base _))) rep_mid hl0 hby).mono ?_; rintro e w1 ⟨rfl, H2⟩; rw [HL1.out]; have hown1 := H2.rowxM (t := 71) (k := 4) (A := some ⟨g, o, none⟩) (c := c) (n := n) (xs := ds.flatMap encVer ++ (encVer ⟨data, da, dc, made, gone, dead⟩ ++ r.flatMap encVer)) List.mem_cons_self; obtain ⟨v1, d1⟩ := rowx_some hown1 (i := k * 4) (j := 1) (by omega); have f1 := rowx_frozen hown1 (k * 4) 1; obtain ⟨v2, d2⟩ := rowx_some hown1 (i := k * 4) (j := 2) (by omega); have f2 := rowx_frozen hown1 (k * 4) 2; obtain ⟨v3, d3⟩ := rowx_some hown1 (i := k * 4) (j := 3) (by omega); have f3 := rowx_frozen hown1 (k * 4) 3; clear hown1)
      rw [List.cons_append] at H2
      have H3 := Hp.set (b := g) (j := o + k * 4 + 3) (v := .bool b3) (Hp.set (b := g) (j := o + k * 4 + 2) (v := .bool b2) (Hp.set (b := g) (j := o + k * 4 + 1) (v := .int .i64 l1) H2 Upd.hereX) Upd.hereX) Upd.hereX
      rw [set_off HFL.out, set_off HFL.out, set_off HFL.out] at H3
      have HQ : Hid (Hp w0 (((w1.setCell ⟨g, o + k * 4 + 1, none⟩ (.int .i64 l1)).setCell ⟨g, o + k * 4 + 2, none⟩ (.bool b2)).setCell ⟨g, o + k * 4 + 3, none⟩ (.bool b3)) (rowx 71 4 (some ⟨g, o, none⟩) n c ((ds ++ [(⟨mkB l data.length, da, dc, (l1 : Int), b2, b3⟩ : Ver)]).flatMap encVer ++ r.flatMap encVer) :: ((ds ++ [(⟨mkB l data.length, da, dc, (l1 : Int), b2, b3⟩ : Ver)]).flatMap verF ++ (r.flatMap verF ++ L)))) := by
        show Hp w0 _ _
        rw [marksByte_mk] at H3
        simpa [encVer, verF, mkB_len, rByte] using H3
      clear H3 H2 H1
      go_roundw
      case rel => exact ⟨k + 1, l4, ds ++ [(⟨mkB l data.length, da, dc, (l1 : Int), b2, b3⟩ : Ver)], HK1.out.1, by go_num, rfl, ⟨by rw [HRR.out, HD2.out, mkV, HV.out, HL4.out]; simp, by rw [List.length_append]; simp; exact (by have := HFL.out; rw [flat_len4] at this; omega)⟩, ⟨by rw [HRR.out, HL2.out.1, hcn, HL4.out]; omega, by rw [HL4.out]; omega⟩, by rw [HRR.out]; exact HQ⟩
      case measure => have := HK1.out.2; simp [intOf]; omega
    · have hkn : k = n := by omega
      have hd0 : vs.drop k = [] := List.drop_eq_nil_of_le (by omega)
      have HR : Hid (mkV m vs = ds) := by show _ = _; rw [HD.out.1, hd0, mkV, List.append_nil]
      have HC : Hid (m + cntV vs = l) := by show _ = _; rw [HL.out.1, hd0, cntV]; omega
      rw [hd0] at H
      clear hd0 hkn
      go_wp2_with fail
      go_ret
      exact ⟨by rw [HC.out]; rfl, by rw [HR.out]; simpa using H⟩
set_option maxHeartbeats 8000000 in
set_option maxRecDepth 10000 in
theorem markEntryX_hp (A : Option Addr) (n c m : Nat) (es : List Entry) (hn : es.length = n) {w0 w : World} {L : List Ent} (H : Hp w0 w (row 62 3 (.slice A n c) n (es.flatMap encEntry) :: (es.flatMap entX ++ L))) (h0 : 0 < m) (hm : m + cntE es ≤ 1125899906842624) :
    Calls Tryd.prog 58 #[.slice A n c, .int .i64 m] w fun e w' => e = .returned (.int .i64 ((m + cntE es : Nat) : Int)) ∧ Hp w0 w' (row 62 3 (.slice A n c) n ((mkE m es).flatMap encEntry) :: ((mkE m es).flatMap entX ++ L)) := by
  have hr := H.rdM (t := 62) (k := 3) (A := A) (n := n) (c := c) (xs := es.flatMap encEntry) List.mem_cons_self
  have hc := hr.2.1
  have hmx := hr.2.2.1
  unfold maxLen at hmx
  clear hr
  have HH := Lib.hid H
  go_enter Tryd.func58, Tryd.ntmps58
  go_wp2_with fail
  clear H
  go_loopw [1, 5] (fun lv i wr => ∃ (k l : Nat) (ds : List Entry), k ≤ n ∧ i = .int .i64 k ∧ lv = .int .i64 l ∧ Hid (mkE m es = ds ++ mkE l (es.drop k) ∧ ds.length = k) ∧ Hid (m + cntE es = l + cntE (es.drop k) ∧ 0 < l) ∧ Hid (Hp w0 wr (row 62 3 (.slice A n c) n (ds.flatMap encEntry ++ (es.drop k).flatMap encEntry) :: (ds.flatMap entX ++ ((es.drop k).flatMap entX ++ L))))) (fun _ i _ => n - (intOf i).toNat)
  case atStart => exact ⟨0, m, [], Nat.zero_le _, rfl, rfl, ⟨rfl, rfl⟩, ⟨rfl, h0⟩, HH⟩
  case round =>
    clear HH
    obtain ⟨k, l, ds, hk, rfl, rfl, HD, HL, HP⟩ := hrel
    have H := HP.out
    by_cases hlt : k < n
    · have hdr : es.drop k = (es[k]'(by omega)) :: es.drop (k + 1) := List.drop_eq_getElem_cons (by omega)
      have hDL := HD.out.2
      obtain ⟨r, HRR⟩ : ∃ r, Hid (es.drop (k + 1) = r) := ⟨_, rfl⟩
      rw [HRR.out] at hdr
      have HD2 : Hid (mkE m es = ds ++ mkE l ((es[k]'(by omega)) :: r)) := by show _ = _; rw [← hdr]; exact HD.out.1
      have HL2 : Hid (m + cntE es = l + cntE ((es[k]'(by omega)) :: r) ∧ 0 < l) := by rw [← hdr]; exact HL.out
      rw [hdr] at H
      have HK1 : Hid (k + 1 ≤ n ∧ n - (k + 1) < n - k) := ⟨by omega, by omega⟩
      clear hdr HD HL
      generalize (es[k]'(by omega)) = v at *
      obtain ⟨path, first, vs, va, vc⟩ := v
      simp only [List.flatMap_cons, List.append_assoc] at H
      have hown := H.rowM (t := 62) (k := 3) (v := .slice A n c) (n := n) (xs := ds.flatMap encEntry ++ (encEntry ⟨path, first, vs, va, vc⟩ ++ r.flatMap encEntry)) List.mem_cons_self
      obtain ⟨g, rfl⟩ := rowGm hown (by omega)
      have hfl : (ds.flatMap encEntry).length = k * 3 := by rw [flat_len3, hDL]
      have HFL := Lib.hid hfl
      have hcn : cntE (⟨path, first, vs, va, vc⟩ :: r) = 2 + cntV vs + cntE r := rfl
      have hb9 : l + 2 + cntV vs ≤ 1125899906842624 := by have := HL2.out.1; rw [hcn] at this; omega
      have hl0 := HL2.out.2
      have hk1 : (k : Int) < (n : Int) := by omega
      have hk0 : (0 : Int) ≤ (k : Int) := by omega
      obtain ⟨l1, hl1⟩ : ∃ l1, l1 = l + 1 := ⟨_, rfl⟩
      obtain ⟨l2, hl2⟩ : ∃ l2, l2 = l + 2 := ⟨_, rfl⟩
      have hw1 : IntKind.i64.wrap ((l : Int) + 1) = (l1 : Int) := by rw [IntKind.wrap_i64]; omega
      have hw2 : IntKind.i64.wrap ((l1 : Int) + 1) = (l2 : Int) := by rw [IntKind.wrap_i64]; omega
      have HV : Hid (markE l ⟨path, first, vs, va, vc⟩ = ⟨mkText l, (l1 : Int), mkV l2 vs, va, vc⟩) := by
        show _ = _
        rw [hl1, hl2]; rfl
      have HL4 : Hid (l2 + cntV vs = l + 2 + cntV vs) := by show _ = _; omega
      have hl20 : 0 < l2 := by omega
      have hb8 : l2 + cntV vs ≤ 1125899906842624 := by omega
      clear hl1 hl2 hown hfl hDL hlt
      have hlt0 : (0 : Int) < (l : Int) := by omega
      have hlt1 : (l : Int) ≤ 1125899906842624 := by omega
      have HTT : Hid (mkText ((l : Int).toNat) = mkText l) := by show _ = _; rw [Int.toNat_natCast]
      go_wp2_with ((go_at_call 59; refine (markText_any (l : Int) _ hlt0 hlt1).mono ?_; rintro e w1 ⟨rfl, q1⟩; rw [HTT.out]; replace H := Hp.step (by repeat (first | (with_reducible exact H) | (with_reducible apply Hp.alloc) | (with_reducible apply Hp.set) | (with_reducible apply Hp.drew) | (with_reducible apply Hp.drewN) | (with_reducible apply Hp.bytesW) | (with_reducible exact Upd.here) | (with_reducible exact Upd.hereR) | (with_reducible apply Upd.there) | (with_reducible apply Sz.alloc) | (with_reducible apply Sz.set) | (with_reducible apply Sz.drew) | (with_reducible apply Sz.drewN) | (with_reducible apply Sz.bytesW) | (with_reducible assumption) | (with_reducible exact Sz.base _))) q1; have hown1 := H.rowM (t := 62) (k := 3) (v := .slice (some ⟨g, 0, none⟩) n c) (n := n) (xs := ds.flatMap encEntry ++ (encEntry ⟨path, first, vs, va, vc⟩ ++ r.flatMap encEntry)) List.mem_cons_self; have c2 : w1.cell? ⟨g, k * 3 + 2, none⟩ = some (.slice va vs.length vc) := (own_at hown1 (j := k * 3 + 2) (by rw [get_off HFL.out]; rfl)); obtain ⟨v0, hv0, d0⟩ := own_cell hown1 (j := k * 3 + 0) (by omega); have f0 := hown1.frozenAt (k * 3 + 0); obtain ⟨v1, hv1, d1⟩ := own_cell hown1 (j := k * 3 + 1) (by omega); have f1 := hown1.frozenAt (k * 3 + 1); simp only [Nat.add_zero] at d0 f0; clear hv0 hv1 hown1 q1))
      have H3 := Hp.set (b := g) (j := k * 3 + 1) (v := .int .i64 l1) (Hp.set (b := g) (j := k * 3 + 0) (v := .string (mkText l)) H Upd.hereR) Upd.hereR
      rw [set_off HFL.out, set_off HFL.out] at H3
      have H4 := H3.perm (List.perm_append_comm_assoc (entX ⟨path, first, vs, va, vc⟩) (_ :: ds.flatMap entX) (r.flatMap entX ++ L))
      clear H3 H
      have H5' : Hp w0 ((w1.setCell ⟨g, k * 3, none⟩ (.string (mkText l))).setCell ⟨g, k * 3 + 1, none⟩ (.int .i64 l1)) (rowx 71 4 va vs.length vc (vs.flatMap encVer) :: (vs.flatMap verF ++ (row 62 3 (.slice (some ⟨g, 0, none⟩) n c) n (ds.flatMap encEntry ++ ([.string (mkText l), .int .i64 l1, .slice va vs.length vc] ++ r.flatMap encEntry)) :: (ds.flatMap entX ++ (r.flatMap entX ++ L))))) := by simpa [entX, versX, encEntry] using H4
      clear H4
      go_at_call 83
      refine (markVersionX_hp va vs.length vc l2 vs rfl H5' hl20 hb8).mono ?_
      rintro e w2 ⟨rfl, H5⟩
      have HQ : Hid (Hp w0 w2 (row 62 3 (.slice (some ⟨g, 0, none⟩) n c) n ((ds ++ [(⟨mkText l, (l1 : Int), mkV l2 vs, va, vc⟩ : Entry)]).flatMap encEntry ++ r.flatMap encEntry) :: ((ds ++ [(⟨mkText l, (l1 : Int), mkV l2 vs, va, vc⟩ : Entry)]).flatMap entX ++ (r.flatMap entX ++ L)))) := by
        show Hp w0 _ _
        have H6 := H5.perm (List.perm_append_comm_assoc (row 62 3 (.slice (some ⟨g, 0, none⟩) n c) n ((ds ++ [(⟨mkText l, (l1 : Int), mkV l2 vs, va, vc⟩ : Entry)]).flatMap encEntry ++ r.flatMap encEntry) :: ds.flatMap entX) (rowx 71 4 va vs.length vc ((mkV l2 vs).flatMap encVer) :: (mkV l2 vs).flatMap verF) (r.flatMap entX ++ L) |>.trans (by simp [encEntry, mkV_len]))
        simpa [entX, versX, mkV_len] using H6
      go_wp2_with fail
      go_roundw
      case rel => exact ⟨k + 1, l2 + cntV vs, ds ++ [(⟨mkText l, (l1 : Int), mkV l2 vs, va, vc⟩ : Entry)], HK1.out.1, by go_num, rfl, ⟨by rw [HRR.out, HD2.out, mkE, HV.out, HL4.out]; simp, by rw [List.length_append]; simp; exact (by have := HFL.out; rw [flat_len3] at this; omega)⟩, ⟨by rw [HRR.out, HL2.out.1, hcn, HL4.out]; omega, by omega⟩, by rw [HRR.out]; exact HQ⟩
      case measure => have := HK1.out.2; simp [intOf]; omega
    · have hkn : k = n := by omega
      have hd0 : es.drop k = [] := List.drop_eq_nil_of_le (by omega)
      have HR : Hid (mkE m es = ds) := by show _ = _; rw [HD.out.1, hd0, mkE, List.append_nil]
      have HC : Hid (m + cntE es = l) := by show _ = _; rw [HL.out.1, hd0, cntE]; omega
      rw [hd0] at H
      clear hd0 hkn
      go_wp2_with fail
      go_ret
      exact ⟨by rw [HC.out]; rfl, by rw [HR.out]; simpa using H⟩
set_option maxHeartbeats 2000000 in
theorem markStoreX_hp (A : Option Addr) (n c m : Nat) (mi : Int) (hmi : mi = (m : Int)) (es : List Entry) (hn : es.length = n) {w0 w : World} {L L' : List Ent} (H : Hp w0 w L) (hr : Rep L (stoX A c n es) (stoX A c n (mkE m es)) L') (h0 : 0 < m) (hm : m + cntE es ≤ 1125899906842624) :
    Calls Tryd.prog 24 #[.agg #[.slice A n c], .int .i64 mi] w fun e w' => e = .returned (.int .i64 ((m + cntE es : Nat) : Int)) ∧ Hp w0 w' L' := by
  subst hmi
  go_enter Tryd.func24, Tryd.ntmps24
  go_wp2_with fail
  obtain ⟨M, H2, hb⟩ := bund_focus H hr
  refine (markEntryX_hp A n c m es hn (L := M) (w0 := w0) ?_ h0 hm).mono ?_
  · exact (Hp.tails (by repeat (first | (with_reducible exact H2) | (with_reducible apply Hp.alloc) | (with_reducible apply Hp.set) | (with_reducible apply Hp.drew) | (with_reducible apply Hp.drewN) | (with_reducible apply Hp.bytesW) | (with_reducible exact Upd.here) | (with_reducible exact Upd.hereR) | (with_reducible apply Upd.there) | (with_reducible apply Sz.alloc) | (with_reducible apply Sz.set) | (with_reducible apply Sz.drew) | (with_reducible apply Sz.drewN) | (with_reducible apply Sz.bytesW) | (with_reducible assumption) | (with_reducible exact Sz.base _))) (by repeat (first | exact Tl.here | apply Tl.there)))
  rintro e w1 ⟨rfl, H3⟩
  go_wp2_with fail
  go_ret
  exact ⟨rfl, hb _ H3⟩
end Go.Proofs.YtklmcbabpncfmaaDoor

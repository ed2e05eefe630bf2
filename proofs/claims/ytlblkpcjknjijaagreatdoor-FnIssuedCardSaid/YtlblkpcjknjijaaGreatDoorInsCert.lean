/- slices.Insert of one Cert: the walk's roads. No condition. -/
import Derived.Test.YtlblkpcjknjijaaGreatDoorM3
import Derived.Test.YtlblkpcjknjijaaGreatDoorInsKit
import Derived.Test.YtlblkpcjknjijaaGreatDoorInsB
import Derived.Test.YtlblkpcjknjijaaGreatDoorM1
import Derived.Deep.RegionLaw
import Derived.Laws.LoneSync
set_option linter.unusedVariables false
set_option linter.unusedSimpArgs false
namespace Go.Proofs.YtlblkpcjknjijaaGreatDoor
open Go.RowKit
set_option linter.unusedVariables false
def InsPostCert (w : World) (lo hi n i : Nat) (us : List Cert) (u : Cert) (e : Ending) (w' : World) : Prop :=
  ∃ A' c' lo' hi', e = .returned (.slice A' (n + 1) c') ∧ Own w' lo' hi' 30 8 (.slice A' (n + 1) c') (n + 1) ((us.take i ++ u :: us.drop i).flatMap encCert) ∧ Chg w w' lo hi ∧ ((lo ≤ lo' ∧ hi' ≤ hi) ∨ w.heap.size ≤ lo')
set_option maxHeartbeats 4000000 in
set_option maxRecDepth 10000 in
theorem insCert_end (A : Option Addr) (n c lo hi vb : Nat) (us : List Cert) (u : Cert) (w : World) (ho : Own w lo hi 30 8 (.slice A n c) n (us.flatMap encCert)) (hn : us.length = n) (h20 : n ≤ 1048576) (hlo : lo ≤ w.heap.size)
    (hv : Bx w vb 30 (encCert u).toArray) :
    Calls Tryz.prog 35 #[.slice A n c, .int .i64 n, .slice (some ⟨vb, 0, none⟩) 1 1] w (InsPostCert w lo hi n n us u) := by
  obtain ⟨i0, hi0, hz0, hz1, hz2⟩ := info_parts Tryz.infoCert
  have hnc := ho.rd.2.1
  have hcm := ho.rd.2.2.1
  unfold maxLen at hcm
  have hfl : us.flatMap encCert ++ encCert u = (us.take n ++ u :: us.drop n).flatMap encCert := by rw [List.take_of_length_le (by omega), List.drop_of_length_le (by omega)]; simp
  have hnews : ∀ j x, (encCert u)[j]? = some x → w.cell? ((⟨vb, 0, none⟩ : Addr).add j) = some x := fun j x hx => by rw [Addr.add_lit, Nat.zero_add, hv.cell]; simpa using hx
  go_enter Tryz.func35, Tryz.ntmps35
  go_wp2_with (at_builtin; refine wpList_append_lies _ (by rfl) _ _ 24 (by rfl) lo 30 i0 _ 8 _ Tryz.underlying24 hi0 hz0 hz1 hz2 (by rfl) (by decide) (.slice A n c) n _ (by rfl) ho.1 ⟨vb, 0, none⟩ 1 1 (encCert u) (by rfl) (by rfl) hnews (oneCert u) (by decide) (by unfold maxLen; omega) (by omega) hlo w.heap.size rfl ?_; intro g cap wa hown hgrow hat hlt1)
  all_goals
    obtain ⟨own2, hg2⟩ := own_at_ hown (by omega) hlt1
    rw [hfl] at own2
    go_ret
    refine ⟨_, _, _, _, rfl, own2, Chg.of_grown hgrow ho.lt, ?_⟩
    rcases hat with hat | hat
    · have := ho.lt g (by exact hat); exact .inl (by omega)
    · exact .inr (by omega)
set_option maxHeartbeats 4000000 in
set_option maxRecDepth 10000 in
theorem insCert_shift (g n c i lo hi vb : Nat) (us : List Cert) (u : Cert) (w : World) (h : Own w lo hi 30 8 (.slice (some ⟨g, 0, none⟩) n c) n (us.flatMap encCert)) (hn : us.length = n) (h20 : n ≤ 1048576) (hin : i < n) (hroom : n + 1 ≤ c)
    (hv : Bx w vb 30 (encCert u).toArray) (hvb : vb ≠ g) :
    Calls Tryz.prog 35 #[.slice (some ⟨g, 0, none⟩) n c, .int .i64 i, .slice (some ⟨vb, 0, none⟩) 1 1] w (InsPostCert w lo hi n i us u) := by
  obtain ⟨i0, hi0, hz0, hz1, hz2⟩ := info_parts Tryz.infoCert
  obtain ⟨hnc, hcm⟩ := h.lenCap
  unfold maxLen at hcm
  have hg := h.lt g rfl
  have hsz : (Tryz.prog.info? 30).map (·.size) = some 8 := by rw [hi0]; simp [hz1]
  have hzs : ∀ w, (Go.sizeOf 30).run Tryz.prog w = .ok 8 w := fun w => by simp [sizeOf, typeInfo, hi0, hz1]
  obtain ⟨ys, hyl, own0⟩ := h.ext (m := n + 1) (by omega) hroom
  have hy2 : ys.length = 8 := by rw [hyl]; omega
  obtain ⟨P, hP⟩ : ∃ P, P = (us.take i).flatMap encCert := ⟨_, rfl⟩
  obtain ⟨D, hD⟩ : ∃ D, D = (us.drop i).flatMap encCert := ⟨_, rfl⟩
  have hPl : P.length = i * 8 := by rw [hP, flat_len encCert 8 encCert_len, List.length_take, hn, Nat.min_eq_left (by omega)]
  have hDl : D.length = (n - i) * 8 := by rw [hD, flat_len encCert 8 encCert_len, List.length_drop, hn]
  have hPD : us.flatMap encCert = P ++ D := by rw [hP, hD, ← List.flatMap_append, List.take_append_drop]
  have h1D : ∀ x ∈ D, x.oneCell' = true := by rw [hD]; exact encCert_one _
  rw [hPD] at own0
  have hxl : ((P ++ D) ++ ys).length = (n + 1) * 8 := own0.1.1
  obtain ⟨tB, kB, hsb, hkB⟩ : ∃ t k, w.shape? g = some (t, k) ∧ k ≠ 0 := by
    obtain ⟨t, k, h1, h2, _⟩ := World.shape?_of_cell? (own0.cellAt (List.getElem?_eq_getElem (by omega : 0 < ((P ++ D) ++ ys).length)))
    exact ⟨t, k, h1, by have : 0 < k := h2; omega⟩
  have hsa : w.shape? vb = some (30, 8) := by
    have h1 : w.heap[vb]? = some (.cells (encCert u).toArray 30 (0, 0)) := hv
    simp [World.shape?, h1, encCert]
  have hfv : ∀ o, w.frozen? ⟨vb, o, none⟩ = false := fun o => by
    have h1 : w.heap[vb]? = some (.cells (encCert u).toArray 30 (0, 0)) := hv
    simp [World.frozen?, h1]
  have hov : ∀ o lb cb, (callFunc 68 #[.slice (some ⟨vb, 0, none⟩) 1 1, .slice (some ⟨g, o, none⟩) lb cb]).run Tryz.prog w = .ok (.value (.bool false)) w := fun o lb cb => by
    rw [run_callFunc_extern Tryz.func68 (by kernel_rfl) (by kernel_rfl) (by kernel_rfl) (e := Extern.SlicesOverlaps.overlaps #[24, 24] #[4]) (by kernel_rfl),
      Lib.run_overlaps_apart w 24 4 30 Tryz.underlying24 8 hzs ⟨vb, 0, none⟩ ⟨g, o, none⟩ 1 1 lb cb hvb _ tB _ kB hsa hsb hkB (hfv _) (hfv _)]
    rfl
  have hall : ∀ t, t < (n + 1) * 8 → (w.cell? ⟨g, t, none⟩).isSome = true ∧ w.frozen? ⟨g, t, none⟩ = false := by
    intro t ht
    exact ⟨by rw [own0.cellAt (List.getElem?_eq_getElem (by omega : t < ((P ++ D) ++ ys).length))]; rfl, h.1.frozenAt t⟩
  have hvs : ∀ j x, (encCert u)[j]? = some x → w.cell? ⟨vb, j, none⟩ = some x := fun j x hx => by rw [hv.cell]; simpa using hx
  have hDs : ∀ j x, D[j]? = some x → w.cell? ⟨g, i * 8 + j, none⟩ = some x := fun j x hx => h.cellAt (by rw [hPD, List.getElem?_append_right (by omega)]; rw [← hx]; congr 1; omega)
  obtain ⟨W1, hW1⟩ : ∃ W1, W1 = w.drew.setCells g ((i + 1) * 8) D := ⟨_, rfl⟩
  have own1 : Own W1 lo hi 30 8 (.slice (some ⟨g, 0, none⟩) (n + 1) c) (n + 1) (setL ((P ++ D) ++ ys) ((i + 1) * 8) D) := by rw [hW1]; exact Own.setCells D _ _ _ own0.drew
  have chg1 : Chg w W1 lo hi := by rw [hW1]; exact Chg.setCells hg D _ _ _ (Chg.of_below (Below.refl _ _).drew)
  have own2 := Own.setCells (encCert u) (i * 8) _ _ own1
  have chg2 := Chg.setCells hg (encCert u) (i * 8) _ _ chg1
  rw [ins_shift (k := 8) hPl (by omega) rfl hy2, hP, hD, ins_flat] at own2
  have R2 := Lib.hid own2
  have C2 := Lib.hid chg2
  have hcp1 : ∀ ty dc sc, (Builtin.copy_ #[24, 24] ty #[.slice (some ⟨g, (i + 1) * 8, none⟩) (n - i) dc, .slice (some ⟨g, i * 8, none⟩) (n + 1 - i) sc]).run Tryz.prog w.drew = .ok (goInt (n - i : Nat)) W1 := fun ty dc sc => by
    rw [hW1]
    exact run_copyK w.drew _ _ ty 30 8 g _ _ dc ⟨g, i * 8, none⟩ _ sc (n - i) D Tryz.underlying24 hsz (by simp only [Nat.min_def]; split <;> omega) hDl (fun j x hx => by rw [Addr.add_lit]; exact hDs j x hx) (fun j hj => (hall _ (by omega)).1) (fun j hj => (hall _ (by omega)).2) h1D
  have hcp2 : ∀ (W : World), (∀ x, W.cell? x = W1.cell? x) → (∀ x, W.frozen? x = W1.frozen? x) → ∀ ty dc, (Builtin.copy_ #[24, 24] ty #[.slice (some ⟨g, i * 8, none⟩) (n + 1 - i) dc, .slice (some ⟨vb, 0, none⟩) 1 1]).run Tryz.prog W = .ok (goInt (1 : Nat)) (W.setCells g (i * 8) (encCert u)) := fun W hWc hWf ty dc => by
    exact run_copyK W _ _ ty 30 8 g _ _ dc ⟨vb, 0, none⟩ 1 1 1 (encCert u) Tryz.underlying24 hsz (by simp only [Nat.min_def]; split <;> omega) rfl
      (fun j x hx => by rw [Addr.add_lit, Nat.zero_add, hWc, hW1, World.cell?_setCells_out g _ _ _ _ (fun e _ => absurd e hvb)]; exact hvs j x hx)
      (fun j hj => by
        have hj2 : j < 8 := hj
        rw [hWc, own1.cellAt (List.getElem?_eq_getElem (by rw [setL_len]; omega : i * 8 + j < (setL ((P ++ D) ++ ys) ((i + 1) * 8) D).length))]; rfl)
      (fun j hj => by rw [hWf]; exact own1.1.frozenAt _) (oneCert u)
  have z1 : ¬ ((i : Int) = (n : Int)) := by omega
  have z2 : ¬ ((c : Int) < (n : Int) + 1) := by omega
  have z3 : (i : Int) ≤ (n : Int) := by omega
  have z4 : (i : Int) + 1 ≤ (n : Int) + 1 := by omega
  have z5 : (0 : Int) ≤ (i : Int) + 1 := by omega
  have z6 : (n : Int) + 1 ≤ (c : Int) := by omega
  have z7 : (i : Int) ≤ (n : Int) + 1 := by omega
  have z8 : IntKind.i64.wrap ((i : Int) + 1) = (i : Int) + 1 := by rw [IntKind.wrap_i64]; omega
  have z9 : ((i : Int) + 1).toNat = i + 1 := by omega
  have z10 : ¬ (c = i + 1) := by omega
  have z11 : ¬ (c = i) := by omega
  clear hW1
  clear hall hDs hvs own0 own1 own2 chg1 chg2 hxl hPl hDl h1D hyl hy2 h hPD
  go_enter Tryz.func35, Tryz.ntmps35
  go_wp2_with (simp only [hov])
  go_region_law (refine step_copy_runK rfl _ _ 24 24 rfl (.slice (some ⟨g, (i + 1) * 8, none⟩) (n - i) (c - (i + 1))) (.slice (some ⟨g, i * 8, none⟩) (n + 1 - i) (c - i)) (by simp [Act.eval, Act.put]) (by simp [Act.eval, Act.put]) (hcp1 _ _ _) ?_)
  go_wp2_with (at_builtin; refine wpList_copy_runK _ rfl _ _ 24 24 rfl _ _ rfl rfl (hcp2 _ (fun _ => rfl) (fun _ => rfl) _ _) ?_)
  go_ret
  exact ⟨_, _, _, _, rfl, R2.out, C2.out, .inl ⟨Nat.le_refl _, Nat.le_refl _⟩⟩
set_option maxHeartbeats 4000000 in
set_option maxRecDepth 10000 in
theorem insCert_grow (g n c i lo hi vb : Nat) (us : List Cert) (u : Cert) (w : World) (h : Own w lo hi 30 8 (.slice (some ⟨g, 0, none⟩) n c) n (us.flatMap encCert)) (hn : us.length = n) (h20 : n ≤ 1048576) (hin : i < n) (hroom : c < n + 1)
    (hv : Bx w vb 30 (encCert u).toArray) :
    Calls Tryz.prog 35 #[.slice (some ⟨g, 0, none⟩) n c, .int .i64 i, .slice (some ⟨vb, 0, none⟩) 1 1] w (InsPostCert w lo hi n i us u) := by
  obtain ⟨i0, hi0, hz0, hz1, hz2⟩ := info_parts Tryz.infoCert
  obtain ⟨hnc, hcm⟩ := h.lenCap
  obtain rfl : c = n := by omega
  unfold maxLen at hcm
  have hg := h.lt g rfl
  have hgw : g < w.heap.size := Nat.lt_of_lt_of_le hg.2 h.2.2
  have hvw : vb < w.heap.size := hv.lt
  have hsz : (Tryz.prog.info? 30).map (·.size) = some 8 := by rw [hi0]; simp [hz1]
  obtain ⟨P, hP⟩ : ∃ P, P = (us.take i).flatMap encCert := ⟨_, rfl⟩
  obtain ⟨D, hD⟩ : ∃ D, D = (us.drop i).flatMap encCert := ⟨_, rfl⟩
  have hPl : P.length = i * 8 := by rw [hP, flat_len encCert 8 encCert_len, List.length_take, hn, Nat.min_eq_left (by omega)]
  have hDl : D.length = (c - i) * 8 := by rw [hD, flat_len encCert 8 encCert_len, List.length_drop, hn]
  have hPD : us.flatMap encCert = P ++ D := by rw [hP, hD, ← List.flatMap_append, List.take_append_drop]
  have h1D : ∀ x ∈ D, x.oneCell' = true := by rw [hD]; exact encCert_one _
  have hvs : ∀ j x, (encCert u)[j]? = some x → w.cell? ⟨vb, j, none⟩ = some x := fun j x hx => by rw [hv.cell]; simpa using hx
  have hPs : ∀ j x, P[j]? = some x → w.cell? ⟨g, j, none⟩ = some x := fun j x hx => h.cellAt (by rw [hPD, List.getElem?_append_left (List.getElem?_eq_some_iff.1 hx).1]; exact hx)
  have hDs : ∀ j x, D[j]? = some x → w.cell? ⟨g, i * 8 + j, none⟩ = some x := fun j x hx => h.cellAt (by rw [hPD, List.getElem?_append_right (by omega)]; rw [← hx]; congr 1; omega)
  obtain ⟨G, hG⟩ : ∃ G, G = grownCap w (c + 1) c 30 := ⟨_, rfl⟩
  have hGn : c + 1 ≤ G := by rw [hG]; exact grownCap_ge w _ _ _
  have hG63 : G ≤ maxLen := by rw [hG]; exact grownCap_le_maxLen w (c + 1) c _ (by unfold maxLen; omega)
  have hold : (Builtin.firstCells i0.size i (.slice (some ⟨g, 0, none⟩) i c)).run Tryz.prog w.drew = .ok P.toArray w.drew := by
    rw [hz1]
    exact run_firstCells_some (w := w.drew) 8 i ⟨g, 0, none⟩ i c P hPl (fun j x hx => by rw [Addr.add_lit, Nat.zero_add]; exact hPs j x hx)
  obtain ⟨Z, hZ⟩ : ∃ Z, Z = (Builtin.zeroCells (Value.agg #[Value.int .i64 0, Value.string ByteArray.empty, Value.int .i64 0, Value.int .i64 0, Value.int .i64 0, Value.bool false, Value.int .i64 0, Value.int .i64 0]).cells (c + 1 - i)).toList := ⟨_, rfl⟩
  obtain ⟨T, hT⟩ : ∃ T, T = (Builtin.zeroCells (Value.agg #[Value.int .i64 0, Value.string ByteArray.empty, Value.int .i64 0, Value.int .i64 0, Value.int .i64 0, Value.bool false, Value.int .i64 0, Value.int .i64 0]).cells (G - (c + 1))).toList := ⟨_, rfl⟩
  have hZl : Z.length = (c + 1 - i) * 8 := by rw [hZ]; simp [Builtin.zeroCells, Value.cells]
  have hTl : T.length = (G - (c + 1)) * 8 := by rw [hT]; simp [Builtin.zeroCells, Value.cells]
  have hrz : ∀ ty, (Builtin.append_ #[24, 3] ty #[.slice (some ⟨g, 0, none⟩) i c, .int .i64 ((c : Int) + 1 - (i : Int))]).run Tryz.prog w =
      .ok (.slice (some ⟨w.heap.size, 0, none⟩) (c + 1) G) (w.drew.alloc (.cells (P ++ Z ++ T).toArray 30)) := fun ty => by
    have h3 := Lib.run_append_grow_zeros w 24 3 ty 30 i0 _ .i64 .i64 Tryz.underlying24 Tryz.underlying3 hi0 hz0 (some ⟨g, 0, none⟩) i c P hold (c + 1 - i) (by omega) (by omega) (by omega) (by omega) (by rw [hz2]; omega) (by
      rw [hz2, show i + (c + 1 - i) = c + 1 by omega]
      exact growslice_fits (by omega) (by omega))
    rw [show i + (c + 1 - i) = c + 1 by omega, ← hG] at h3
    rw [show ((c : Int) + 1 - (i : Int)) = ((c + 1 - i : Nat) : Int) by omega, h3]
    congr 3
    rw [hZ, hT]
    simp
  obtain ⟨W1, hW1⟩ : ∃ W1, W1 = w.drew.alloc (.cells (P ++ Z ++ T).toArray 30) := ⟨_, rfl⟩
  have hRl : (P ++ Z ++ T).length = G * 8 := by rw [List.length_append, List.length_append, hPl, hZl, hTl]; omega
  have own1 : Own W1 w.heap.size (w.heap.size + 1) 30 8 (.slice (some ⟨w.heap.size, 0, none⟩) G G) G (P ++ Z ++ T) := by
    have h4 := Own.fresh w.drew 8 G G 30 (P ++ Z ++ T) hRl (Nat.le_refl _) hG63
    rw [List.take_of_length_le (by omega)] at h4
    rw [hW1]
    exact h4
  have old1 : ∀ b o, b < w.heap.size → W1.cell? ⟨b, o, none⟩ = w.cell? ⟨b, o, none⟩ := fun b o hb => by rw [hW1, World.cell?_alloc_past (w := w.drew) _ b o hb]; rfl
  have chg1 : Chg w W1 w.heap.size w.heap.size := by rw [hW1]; exact Chg.of_below ((Below.refl _ _).drew.alloc (Nat.le_refl _) _)
  obtain ⟨W2, hW2⟩ : ∃ W2, W2 = W1.setCells w.heap.size (i * 8) (encCert u) := ⟨_, rfl⟩
  have own2 := Own.setCells (encCert u) (i * 8) _ _ own1
  rw [← hW2] at own2
  obtain ⟨W3, hW3⟩ : ∃ W3, W3 = W2.drew.setCells w.heap.size ((i + 1) * 8) D := ⟨_, rfl⟩
  have own3 := Own.setCells D ((i + 1) * 8) _ _ own2.drew
  rw [← hW3] at own3
  have chg2 : Chg w W2 w.heap.size w.heap.size := by rw [hW2]; exact Chg.setNew (Nat.le_refl _) _ _ _ chg1
  have chg3 : Chg w W3 w.heap.size w.heap.size := by rw [hW3]; exact Chg.setNew (Nat.le_refl _) _ _ _ (chg2.grow (Below.refl _ _).drew)
  rw [ins_grow (k := 8) hPl (by omega) rfl (by rw [hZl, hDl]; omega) T] at own3
  have own4 := own3.cut (m := c + 1) (by omega)
  rw [List.take_append_of_le_length (by rw [List.length_append, List.length_append, hPl, hDl]; simp [encCert]; omega), List.take_of_length_le (by rw [List.length_append, List.length_append, hPl, hDl]; simp [encCert]; omega), hP, hD, ins_flat] at own4
  have R4 := Lib.hid own4
  have C3 := Lib.hid chg3
  have hcpA : ∀ ty dc, (Builtin.copy_ #[24, 24] ty #[.slice (some ⟨w.heap.size, i * 8, none⟩) (c + 1 - i) dc, .slice (some ⟨vb, 0, none⟩) 1 1]).run Tryz.prog W1 = .ok (goInt (1 : Nat)) W2 := fun ty dc => by
    rw [hW2]
    exact run_copyK W1 _ _ ty 30 8 _ _ _ dc ⟨vb, 0, none⟩ 1 1 1 (encCert u) Tryz.underlying24 hsz (by simp only [Nat.min_def]; split <;> omega) rfl
      (fun j x hx => by rw [Addr.add_lit, Nat.zero_add, old1 _ _ hvw]; exact hvs j x hx)
      (fun j hj => by
        have hj2 : j < 8 := hj
        rw [own1.cellAt (List.getElem?_eq_getElem (by rw [hRl]; omega : i * 8 + j < (P ++ Z ++ T).length))]; rfl)
      (fun j hj => own1.1.frozenAt _) (oneCert u)
  have hcpB : ∀ ty dc sc, (Builtin.copy_ #[24, 24] ty #[.slice (some ⟨w.heap.size, (i + 1) * 8, none⟩) (c - i) dc, .slice (some ⟨g, i * 8, none⟩) (c - i) sc]).run Tryz.prog W2.drew = .ok (goInt (c - i : Nat)) W3 := fun ty dc sc => by
    rw [hW3]
    exact run_copyK W2.drew _ _ ty 30 8 _ _ _ dc ⟨g, i * 8, none⟩ _ sc (c - i) D Tryz.underlying24 hsz (Nat.min_self _) hDl
      (fun j x hx => by
        rw [Addr.add_lit]
        show W2.cell? _ = _
        rw [hW2, World.cell?_setCells_out _ _ _ _ _ (fun e _ => absurd e (by show g ≠ w.heap.size; omega)), old1 _ _ hgw]
        exact hDs j x hx)
      (fun j hj => by
        show (W2.cell? _).isSome = true
        rw [own2.cellAt (List.getElem?_eq_getElem (by rw [setL_len, hRl]; omega : (i + 1) * 8 + j < (setL (P ++ Z ++ T) (i * 8) (encCert u)).length))]; rfl)
      (fun j hj => own2.1.frozenAt _) h1D
  rw [← hW1] at hrz
  have z1 : ¬ ((i : Int) = (c : Int)) := by omega
  have z2 : (c : Int) < (c : Int) + 1 := by omega
  have z3 : (i : Int) ≤ (c : Int) := by omega
  have z8 : IntKind.i64.wrap ((i : Int) + 1) = (i : Int) + 1 := by rw [IntKind.wrap_i64]; omega
  have z9 : ((i : Int) + 1).toNat = i + 1 := by omega
  have z5 : (0 : Int) ≤ (i : Int) + 1 := by omega
  have z4 : (i : Int) + 1 ≤ (c : Int) + 1 := by omega
  have z10 : ¬ (G = i + 1) := by omega
  have z11 : ¬ (G = i) := by omega
  have z12 : ¬ (c = i) := by omega
  have z13 : (i : Int) ≤ (c : Int) + 1 := by omega
  unfold maxLen at hG63
  clear hG hZ hT hW1 hW2 hW3 own1 own2 own3 own4 chg1 chg2 chg3 old1 hvs hPs hDs hP hD hPl hDl hPD h1D hold hZl hTl hRl h hv
  go_enter Tryz.func35, Tryz.ntmps35
  go_wp2_with (first
    | (at_builtin; refine Lib.wpList_append_run _ rfl _ _ _ _ rfl _ _ rfl rfl _ _ (hrz _) ?_)
    | (at_builtin; refine wpList_copy_runK _ rfl _ _ 24 24 rfl _ _ rfl rfl (hcpA _ _) ?_))
  go_region_law (refine step_copy_runK rfl _ _ 24 24 rfl (.slice (some ⟨w.heap.size, (i + 1) * 8, none⟩) (c - i) (G - (i + 1))) (.slice (some ⟨g, i * 8, none⟩) (c - i) (c - i)) (by simp [Act.eval, Act.put]) (by simp [Act.eval, Act.put]) (hcpB _ _ _) ?_)
  go_wp2
  go_ret
  exact ⟨_, _, _, _, rfl, R4.out, ⟨C3.out.os, C3.out.tape, C3.out.output, C3.out.size, fun k hk _ => C3.out.block k hk (.inl hk)⟩, .inr (Nat.le_refl _)⟩
theorem insCert_any (A : Option Addr) (n c i lo hi vb : Nat) (us : List Cert) (u : Cert) (w : World) (h : Own w lo hi 30 8 (.slice A n c) n (us.flatMap encCert)) (hn : us.length = n) (h20 : n ≤ 1048576) (hlo : lo ≤ w.heap.size) (hin : i ≤ n)
    (hv : Bx w vb 30 (encCert u).toArray) (hvb : vb < lo ∨ hi ≤ vb) :
    Calls Tryz.prog 35 #[.slice A n c, .int .i64 i, .slice (some ⟨vb, 0, none⟩) 1 1] w (InsPostCert w lo hi n i us u) := by
  by_cases hi' : i = n
  · subst hi'
    exact insCert_end A i c lo hi vb us u w h hn h20 hlo hv
  · obtain ⟨g, rfl, h1, h2⟩ := h.at_ (by omega)
    by_cases hroom : n + 1 ≤ c
    · exact insCert_shift g n c i lo hi vb us u w h hn h20 (by omega) hroom hv (by omega)
    · exact insCert_grow g n c i lo hi vb us u w h hn h20 (by omega) (by omega) hv
theorem insCert_hp {w0 w : World} {L : List Ent} (A : Option Addr) (c i vb : Nat) (us : List Cert) (u : Cert) (H : Hp w0 w L) (hm : rCert A c us ∈ L) (hb : box vb 30 (encCert u) ∈ L) (h20 : us.length ≤ 1048576) (hin : i ≤ us.length) (hne : ∀ a, A = some a → vb ≠ a.block) :
    Calls Tryz.prog 35 #[.slice A us.length c, .int .i64 i, .slice (some ⟨vb, 0, none⟩) 1 1] w fun e w' => ∃ A' c', e = .returned (.slice A' (us.length + 1) c') ∧ ∀ L', Rep L (rCert A c us) (rCert A' c' (us.take i ++ u :: us.drop i)) L' → Hp w0 w' L' := by
  obtain ⟨ho, hlo⟩ := H.ownM hm
  have hv : Bx w vb 30 (encCert u).toArray := (H.ok _ hb).p
  have hvl := hv.lt
  have hls : loA A w.heap.size ≤ w.heap.size := by
    cases A with
    | none => exact Nat.le_refl _
    | some a => have h1 := ho.2.1 a.block; have h2 := ho.2.2; have h3 : (Value.slice (some a) us.length c).ownBlock = some a.block := rfl; have := (ho.1.lt a.block h3).2; show a.block ≤ _; omega
  have hap : vb < loA A w.heap.size ∨ hiA A w.heap.size ≤ vb := by
    cases A with
    | none => exact .inl hvl
    | some a => have := hne a rfl; show vb < a.block ∨ a.block + 1 ≤ vb; omega
  refine (insCert_any A us.length c i _ _ vb us u w ho rfl h20 hls hin hv hap).mono ?_
  rintro e w' ⟨A', c', lo', hi', rfl, own2, hc, hwh⟩
  refine ⟨A', c', rfl, ?_⟩
  rintro L' ⟨k, hk, rfl⟩
  have hlen : (us.take i ++ u :: us.drop i).length = us.length + 1 := by rw [List.length_append, List.length_cons, List.length_take, List.length_drop]; omega
  rw [← hlen] at own2
  refine H.mod k _ _ hk (fun x hx => ?_) (by exact own_base own2.1 (Nat.zero_le _)) (fun x hx => (own2.1.lt x hx).2) hc.os hc.tape hc.output hc.size (fun x hx hx' => hc.block x hx ?_)
  · have h1 := own2.lt x hx
    rcases hwh with ⟨h2, h3⟩ | h2
    · left
      cases A with
      | none => have e1 : loA none w.heap.size = w.heap.size := rfl; have e2 : hiA none w.heap.size = w.heap.size := rfl; omega
      | some a =>
        have e1 : loA (some a) w.heap.size = a.block := rfl
        have e2 : hiA (some a) w.heap.size = a.block + 1 := rfl
        have e3 : a.block = x := by omega
        subst e3
        rfl
    · right; omega
  · cases A with
    | none => exact .inl hx
    | some a =>
      have hx2 : ¬ (some a.block = some x) := hx'
      simp at hx2
      show x < a.block ∨ a.block + 1 ≤ x
      omega
end Go.Proofs.YtlblkpcjknjijaaGreatDoor

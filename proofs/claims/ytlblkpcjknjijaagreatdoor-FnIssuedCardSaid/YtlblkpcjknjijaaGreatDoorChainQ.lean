/- Chains when a certificate is revoked, a pile pruned, a certificate issued: plain words. No condition. -/
import Derived.Test.YtlblkpcjknjijaaGreatDoorChainP
import Derived.Test.YtlblkpcjknjijaaGreatDoorPruneP
import Derived.Test.YtlblkpcjknjijaaGreatDoorIssueP
set_option linter.unusedVariables false
set_option linter.unusedSimpArgs false
namespace Go.Proofs.YtlblkpcjknjijaaGreatDoor
open Go.RowKit
set_option linter.unusedVariables false
def lookC (cs : List Cert) (ks : List CertKey) (x : Int) : Option (Cert × Int) := if ixP (hasSer x) cs 0 < 0 then none else some ((cs[(ixP (hasSer x) cs 0).toNat]?).getD zeroC, ((ks[(ixP (hasSer x) cs 0).toNat]?).map (·.key)).getD 0)
theorem chain_look (cs : List Cert) (ks : List CertKey) (ds : List Int) (now : Int) (f : Nat) (way : List Int) (bel : Option Cert) (x : Int) : chainGo cs ks ds now (f + 1) way bel x = (match lookC cs ks x with | none => ([], 2) | some z => chainAt ds now (chainGo cs ks ds now f) way bel x z.1 z.2) := by
  rw [chainGo, lookC]
  split <;> rfl
abbrev CZ : List Cert → List CertKey → List (Cert × CertKey) := List.zip
theorem look_of {cs : List Cert} {ks : List CertKey} (hp : cs.Pairwise (fun a b => a.ser < b.ser)) {z : Cert × CertKey} (hz : z ∈ CZ cs ks) : lookC cs ks z.1.ser = some (z.1, z.2.key) := by
  obtain ⟨j, hj, rfl⟩ := List.getElem_of_mem hz
  have hjc : j < cs.length := by rw [List.length_zip] at hj; omega
  have hjk : j < ks.length := by rw [List.length_zip] at hj; omega
  rw [List.getElem_zip]
  rcases ixP_spec (hasSer cs[j].ser) cs 0 with ⟨hx, hall⟩ | ⟨i, hi, hx, hhit, -⟩
  · have := hall cs[j] (List.getElem_mem hjc)
    simp [hasSer] at this
  · have he : cs[i].ser = cs[j].ser := by simpa [hasSer] using hhit
    have hij : i = j := by
      rw [List.pairwise_iff_getElem] at hp
      rcases Nat.lt_trichotomy i j with h | h | h
      · have := hp i j hi hjc h; omega
      · exact h
      · have := hp j i hjc hi h; omega
    subst hij
    rw [Nat.zero_add] at hx
    rw [lookC, hx, if_neg (by omega), Int.toNat_natCast, List.getElem?_eq_getElem hjc, List.getElem?_eq_getElem hjk]
    rfl
theorem look_mem {cs : List Cert} {ks : List CertKey} {x : Int} {z : Cert × Int} (hl : ks.length = cs.length) (h : lookC cs ks x = some z) : ∃ k, (z.1, k) ∈ CZ cs ks ∧ k.key = z.2 ∧ z.1.ser = x := by
  rw [lookC] at h
  rcases ixP_spec (hasSer x) cs 0 with ⟨hx, hall⟩ | ⟨i, hi, hx, hhit, -⟩
  · rw [hx, if_pos (by omega)] at h; cases h
  · rw [Nat.zero_add] at hx
    have hik : i < ks.length := by omega
    rw [hx, if_neg (by omega), Int.toNat_natCast, List.getElem?_eq_getElem hi, List.getElem?_eq_getElem hik] at h
    injection h with h
    subst h
    refine ⟨ks[i], ?_, rfl, by simpa [hasSer] using hhit⟩
    have hz : i < (cs.zip ks).length := by rw [List.length_zip]; omega
    have := List.getElem_mem hz
    rw [List.getElem_zip] at this
    exact this

/-! ### What a valid chain is made of -/
theorem good_step {cs : List Cert} {ks : List CertKey} {ds : List Int} {now x : Int} {f : Nat} {way res : List Int} {bel : Option Cert} (h : chainGo cs ks ds now (f + 1) way bel x = (res, 0)) :
    ∃ z, lookC cs ks x = some z ∧ way.length ≠ 6 ∧ hasI ds x = false ∧ inR now z.1.from_ z.1.to_ = true ∧ belChk bel z.1 z.2 = 0 ∧ ((z.1.iss = 0 ∧ z.1.mark = markF z.1 z.2 ∧ res = way ++ [x]) ∨ (z.1.iss ≠ 0 ∧ chainGo cs ks ds now f (way ++ [x]) (some z.1) z.1.iss = (res, 0))) := by
  rw [chain_look] at h
  cases hz : lookC cs ks x with
  | none => rw [hz] at h; have := (Prod.mk.inj h).2; omega
  | some z =>
    rw [hz] at h
    replace h : chainAt ds now (chainGo cs ks ds now f) way bel x z.1 z.2 = (res, 0) := h
    unfold chainAt at h
    refine ⟨z, rfl, ?_⟩
    by_cases h6 : way.length = 6
    · rw [if_pos h6] at h; have := (Prod.mk.inj h).2; omega
    rw [if_neg h6] at h
    cases hd : hasI ds x with
    | true => rw [hd, if_pos rfl] at h; have := (Prod.mk.inj h).2; omega
    | false =>
    rw [hd, if_neg (by decide)] at h
    cases hi : inR now z.1.from_ z.1.to_ with
    | false => rw [hi, if_pos rfl] at h; have := (Prod.mk.inj h).2; omega
    | true =>
    rw [hi, if_neg (by decide)] at h
    by_cases hb : belChk bel z.1 z.2 = 0
    · rw [if_pos hb] at h
      refine ⟨h6, rfl, rfl, hb, ?_⟩
      by_cases h0 : z.1.iss = 0
      · rw [if_pos h0] at h
        by_cases hm : z.1.mark = markF z.1 z.2
        · rw [if_pos hm] at h
          exact .inl ⟨h0, hm, (Prod.mk.inj h).1.symm⟩
        · rw [if_neg hm] at h; have := (Prod.mk.inj h).2; omega
      · rw [if_neg h0] at h
        exact .inr ⟨h0, h⟩
    · rw [if_neg hb] at h
      exact absurd (Prod.mk.inj h).2 hb
theorem good_shape {cs : List Cert} {ks : List CertKey} {ds : List Int} {now : Int} : ∀ {f : Nat} {x : Int} {way res : List Int} {bel : Option Cert}, chainGo cs ks ds now f way bel x = (res, 0) → ∃ t, res = way ++ x :: t ∧ (way.length ≤ 6 → res.length ≤ 6) ∧ ∀ s ∈ x :: t, hasI ds s = false ∧ ∃ z, lookC cs ks s = some z ∧ now ≤ z.1.to_
  | 0, x, way, res, bel, h => by rw [chainGo] at h; have := (Prod.mk.inj h).2; omega
  | f + 1, x, way, res, bel, h => by
    obtain ⟨z, hz, h6, hd, hi, hb, hr⟩ := good_step h
    have hx : hasI ds x = false ∧ ∃ z, lookC cs ks x = some z ∧ now ≤ z.1.to_ := ⟨hd, z, hz, (inR_true.1 hi).2⟩
    rcases hr with ⟨-, -, rfl⟩ | ⟨-, hr⟩
    · refine ⟨[], rfl, fun hw => by simp; omega, fun s hs => ?_⟩
      rw [List.mem_singleton.1 hs]; exact hx
    · obtain ⟨t, rfl, hl, hall⟩ := good_shape hr
      refine ⟨z.1.iss :: t, by simp, fun hw => hl (by simp; omega), fun s hs => ?_⟩
      rcases List.mem_cons.1 hs with rfl | hs
      · exact hx
      · exact hall s hs
theorem good_dead {cs cs' : List Cert} {ks ks' : List CertKey} {ds ds' : List Int} {now y : Int} : ∀ {f : Nat} {x : Int} {way t : List Int} {bel : Option Cert}, chainGo cs ks ds now f way bel x = (way ++ x :: t, 0) → y ∈ x :: t → (∀ s ∈ x :: t, lookC cs' ks' s = lookC cs ks s) → (∀ s ∈ x :: t, hasI ds' s = decide (s = y)) → chainGo cs' ks' ds' now f way bel x = ([], 4)
  | 0, x, way, t, bel, h, _, _, _ => by rw [chainGo] at h; have := (Prod.mk.inj h).2; omega
  | f + 1, x, way, t, bel, h, hy, hL, hD => by
    obtain ⟨z, hz, h6, hd, hi, hb, hr⟩ := good_step h
    rw [chain_look, hL x List.mem_cons_self, hz]
    show chainAt ds' now (chainGo cs' ks' ds' now f) way bel x z.1 z.2 = _
    unfold chainAt
    rw [if_neg h6, hD x List.mem_cons_self]
    by_cases hxy : x = y
    · rw [if_pos (by simpa using hxy)]
    · rw [if_neg (by simpa using hxy), hi, if_neg (by decide), if_pos hb]
      rcases hr with ⟨h0, hm, hre⟩ | ⟨h0, hr⟩
      · have ht : t = [] := by simpa using hre
        subst ht
        rw [List.mem_singleton] at hy
        exact absurd hy.symm hxy
      · rw [if_neg h0]
        obtain ⟨t', ht', -, -⟩ := good_shape hr
        have ht : t = z.1.iss :: t' := by
          rw [List.append_assoc] at ht'
          have := List.append_cancel_left ht'
          simpa using this
        subst ht
        have hre : way ++ x :: z.1.iss :: t' = (way ++ [x]) ++ z.1.iss :: t' := by simp
        rw [hre] at hr
        refine good_dead hr ?_ (fun s hs => hL s (List.mem_cons_of_mem _ hs)) (fun s hs => hD s (List.mem_cons_of_mem _ hs))
        rcases List.mem_cons.1 hy with h | h
        · exact absurd h.symm hxy
        · exact h
/-- A chain that holds, one place higher in another pile. -/
theorem good_more {cs cs' : List Cert} {ks ks' : List CertKey} {ds : List Int} {now : Int} : ∀ {f : Nat} {x : Int} {way t way' : List Int} {bel bel' : Option Cert} {f' : Nat}, chainGo cs ks ds now f way bel x = (way ++ x :: t, 0) → t.length + 1 ≤ f' → way'.length + (t.length + 1) ≤ 6 → (∀ s ∈ x :: t, lookC cs' ks' s = lookC cs ks s) → (∀ z, lookC cs ks x = some z → belChk bel' z.1 z.2 = 0) → chainGo cs' ks' ds now f' way' bel' x = (way' ++ x :: t, 0)
  | 0, x, way, t, way', bel, bel', f', h, _, _, _, _ => by rw [chainGo] at h; have := (Prod.mk.inj h).2; omega
  | f + 1, x, way, t, way', bel, bel', 0, h, h1, _, _, _ => by omega
  | f + 1, x, way, t, way', bel, bel', f' + 1, h, h1, h2, hL, hB => by
    obtain ⟨z, hz, h6, hd, hi, hb, hr⟩ := good_step h
    rw [chain_look, hL x List.mem_cons_self, hz]
    show chainAt ds now (chainGo cs' ks' ds now f') way' bel' x z.1 z.2 = _
    unfold chainAt
    rw [if_neg (by omega), hd, if_neg (by decide), hi, if_neg (by decide), if_pos (hB z hz)]
    rcases hr with ⟨h0, hm, hre⟩ | ⟨h0, hr⟩
    · have ht : t = [] := by simpa using hre
      subst ht
      rw [if_pos h0, if_pos hm]
    · rw [if_neg h0]
      obtain ⟨t', ht', -, -⟩ := good_shape hr
      have ht : t = z.1.iss :: t' := by
        rw [List.append_assoc] at ht'
        have := List.append_cancel_left ht'
        simpa using this
      subst ht
      have hre : way ++ x :: z.1.iss :: t' = (way ++ [x]) ++ z.1.iss :: t' := by simp
      rw [hre] at hr
      have := good_more (way' := way' ++ [x]) (bel' := some z.1) (f' := f') hr (by simpa using h1) (by simp at h2 ⊢; omega) (fun s hs => hL s (List.mem_cons_of_mem _ hs)) (fun z2 hz2 => by
        cases f with
        | zero => rw [chainGo] at hr; have := (Prod.mk.inj hr).2; omega
        | succ f =>
          obtain ⟨z3, hz3, -, -, -, hb3, -⟩ := good_step hr
          rw [hz2] at hz3; injection hz3 with hz3; rw [hz3]; exact hb3)
      rw [this]; simp

/-! ### Piles -/
structure PileI (cs : List Cert) (ks : List CertKey) : Prop where
  len : ks.length = cs.length
  most : cs.length ≤ 60
  each : ∀ z ∈ CZ cs ks, certOk z.1 = true ∧ z.2.ser = z.1.ser ∧ keyOk z.2.key = true
  rise : cs.Pairwise (fun a b => a.ser < b.ser)
theorem pile_I {cs : List Cert} {ks : List CertKey} {ds : List Int} (h : pileOk cs ks ds = true) : PileI cs ks := by
  obtain ⟨h1, h2, -, -, h5⟩ := pile_iff h
  refine ⟨h2, h1, fun z hz => ?_, ?_⟩
  · obtain ⟨j, hj, rfl⟩ := List.getElem_of_mem hz
    rw [List.length_zip] at hj
    rw [List.getElem_zip]
    obtain ⟨a1, -, a3, a4⟩ := pile_at h5 (Nat.le_refl _) h2 j (by omega)
    exact ⟨a1, a3, a4⟩
  · rw [List.pairwise_iff_getElem]
    intro i j hi hj hij
    exact cert_lt h5 h2 hj hij
theorem pile_of {cs : List Cert} {ks : List CertKey} {ds : List Int} (h : PileI cs ks) (hd : ds.length ≤ 60) (hd1 : ∀ d ∈ ds, 1 ≤ d ∧ d ≤ 1000000000) (hd2 : ds.Pairwise (· < ·)) : pileOk cs ks ds = true := by
  have hr : pileRise cs ks cs.length = true := by
    rw [pileRise, List.all_eq_true]
    intro i hi
    have hi : i < cs.length := by simpa using hi
    have hik : i < ks.length := by have := h.len; omega
    have hz : (cs[i], ks[i]) ∈ CZ cs ks := by
      have hz : i < (cs.zip ks).length := by rw [List.length_zip]; omega
      have := List.getElem_mem hz
      rw [List.getElem_zip] at this
      exact this
    obtain ⟨a1, a2, a3⟩ := h.each _ hz
    rw [pileStep, List.getElem?_eq_getElem hi, List.getElem?_eq_getElem hik]
    simp only [Bool.and_eq_true, Bool.or_eq_true, decide_eq_true_eq, beq_iff_eq]
    refine ⟨a1, ?_, a2, a3⟩
    cases i with
    | zero => exact .inl rfl
    | succ i =>
      right
      rw [Nat.add_sub_cancel, List.getElem?_eq_getElem (by omega : i < cs.length)]
      exact List.pairwise_iff_getElem.1 h.rise i (i + 1) (by omega) hi (by omega)
  rw [pileOk, dead_iff.2 ⟨hd1, hd2⟩, hr]
  simp [h.len, h.most, hd]
theorem zip_fst {cs : List Cert} {ks : List CertKey} (h : ks.length = cs.length) : (CZ cs ks).map (·.1) = cs := List.map_fst_zip (by omega)
theorem keepC_zip {cs : List Cert} {ks : List CertKey} {now : Int} (h : ks.length = cs.length) : keepC now cs = ((CZ cs ks).filter fun x => !oldC now x.1).map (·.1) := by
  conv => lhs; rw [← zip_fst h]
  rw [keepC, List.filter_map]; rfl
theorem zip_maps {α β : Type} : ∀ l : List (α × β), List.zip (l.map (·.1)) (l.map (·.2)) = l
  | [] => rfl
  | z :: l => by rw [List.map_cons, List.map_cons, List.zip_cons_cons, zip_maps l]
theorem keep_zip {cs : List Cert} {ks : List CertKey} {now : Int} (h : ks.length = cs.length) : CZ (keepC now cs) (keepK now cs ks) = (CZ cs ks).filter fun x => !oldC now x.1 := by
  rw [keepC_zip h, keepK]; exact zip_maps _
theorem prune_I {cs : List Cert} {ks : List CertKey} {now : Int} (h : PileI cs ks) : PileI (keepC now cs) (keepK now cs ks) := by
  refine ⟨?_, Nat.le_trans keepC_len h.most, fun z hz => ?_, h.rise.sublist List.filter_sublist⟩
  · rw [keepC_zip h.len, keepK, List.length_map, List.length_map]
  · rw [keep_zip h.len] at hz
    exact h.each z ((List.mem_filter.1 hz).1)
theorem prune_look {cs : List Cert} {ks : List CertKey} {now s : Int} {z : Cert × Int} (h : PileI cs ks) (hz : lookC cs ks s = some z) (ht : now ≤ z.1.to_) : lookC (keepC now cs) (keepK now cs ks) s = some z := by
  obtain ⟨k, hm, hk, hs⟩ := look_mem h.len hz
  have hm2 : (z.1, k) ∈ CZ (keepC now cs) (keepK now cs ks) := by
    rw [keep_zip h.len, List.mem_filter]
    exact ⟨hm, by simp [oldC]; omega⟩
  have := look_of (prune_I (now := now) h).rise hm2
  rw [← hs, this, hk]
theorem prune_gone {cs : List Cert} {ks : List CertKey} {now s : Int} {z : Cert × Int} (h : PileI cs ks) (hz : lookC cs ks s = some z) (ht : now ≤ z.1.to_) : hasI (goneC now cs) s = false := by
  rw [← Bool.not_eq_true, hasI_iff]
  intro hm
  rw [goneC, List.mem_map] at hm
  obtain ⟨c, hc, he⟩ := hm
  rw [List.mem_filter] at hc
  obtain ⟨k, hzm, -, hs⟩ := look_mem h.len hz
  have hz1 : z.1 ∈ cs := (List.of_mem_zip hzm).1
  obtain ⟨i, hi, rfl⟩ := List.getElem_of_mem hc.1
  obtain ⟨j, hj, hje⟩ := List.getElem_of_mem hz1
  have hr := List.pairwise_iff_getElem.1 h.rise
  have hij : i = j := by
    rcases Nat.lt_trichotomy i j with h9 | h9 | h9
    · have := hr i j hi hj h9; rw [hje] at this; omega
    · exact h9
    · have := hr j i hj hi h9; rw [hje] at this; omega
  subst hij
  have := hc.2
  simp [oldC, hje] at this
  omega
/-- FnChain's plain law. -/
theorem chain_law {cs : List Cert} {ks : List CertKey} {ds way : List Int} {x now : Int} (h : chainU cs ks ds x now = (way, 0)) :
    0 < way.length ∧ way.length ≤ 6 ∧ way[0]? = some x ∧ ∀ y ∈ way, ∃ rd rb, killU cs ks ds y = (rd, rb) ∧ (rb = false → ds.length = 60) ∧ (rb = true → chainU cs ks rd x now = ([], 4) ∧ ∃ r, pruneU cs ks rd now = r ∧ 0 ≤ r.n ∧ chainU r.cs r.ks r.ds x now = ([], 4)) := by
  have hok : pileOk cs ks ds = true := by
    cases h9 : pileOk cs ks ds with
    | true => rfl
    | false => rw [chainU, h9, if_neg (by decide)] at h; have := (Prod.mk.inj h).2; omega
  have hI := pile_I hok
  rw [chainU, if_pos hok] at h
  obtain ⟨t, hw, hl, hall⟩ := good_shape h
  rw [List.nil_append] at hw
  subst hw
  refine ⟨by simp, hl (by simp), rfl, fun y hy => ?_⟩
  obtain ⟨-, z, hz, -⟩ := hall y hy
  obtain ⟨k, hm, -, hs⟩ := look_mem hI.len hz
  have hany : anyP (hasSer y) cs = true := by
    rw [anyP, List.any_eq_true]
    exact ⟨z.1, (List.of_mem_zip hm).1, by simp [hasSer, hs]⟩
  have hyd := (hall y hy).1
  have hins := pile_ins hok hany hyd
  rw [killU, hok, hany, if_pos (show (true && true) = true from rfl), hyd, if_neg (by decide)]
  by_cases h60 : ds.length = 60
  · rw [if_pos h60]
    exact ⟨_, _, rfl, fun _ => h60, fun h => by cases h⟩
  · rw [if_neg h60]
    refine ⟨_, _, rfl, fun h => (by cases h), fun _ => ?_⟩
    have hok2 : pileOk cs ks (ds.take (posD y ds) ++ y :: ds.drop (posD y ds)) = true := by rw [hins]; simp [h60]
    generalize hrd : ds.take (posD y ds) ++ y :: ds.drop (posD y ds) = rd at *
    have hmem : ∀ s, s ∈ rd ↔ s = y ∨ s ∈ ds := by
      intro s
      rw [← hrd, List.mem_append, List.mem_cons]
      constructor
      · rintro (h1 | h1 | h1)
        · exact .inr (List.mem_of_mem_take h1)
        · exact .inl h1
        · exact .inr (List.mem_of_mem_drop h1)
      · rintro (h1 | h1)
        · exact .inr (.inl h1)
        · rw [← List.take_append_drop (posD y ds) ds, List.mem_append] at h1
          rcases h1 with h1 | h1
          · exact .inl h1
          · exact .inr (.inr h1)
    have hD : ∀ s ∈ x :: t, hasI rd s = decide (s = y) := by
      intro s hs
      have h1 : s ∉ ds := by rw [← hasI_iff, (hall s hs).1]; decide
      rw [Bool.eq_iff_iff, hasI_iff, hmem, decide_eq_true_eq]
      simp [h1]
    refine ⟨by rw [chainU, if_pos hok2]; exact good_dead (way := []) h hy (fun s _ => rfl) hD, _, rfl, ?_⟩
    rw [pruneU, if_pos hok2]
    refine ⟨Int.natCast_nonneg _, ?_⟩
    obtain ⟨-, -, d60, dr, -⟩ := pile_iff hok2
    obtain ⟨dr1, dr2⟩ := dead_iff.1 dr
    have hok3 : pileOk (keepC now cs) (keepK now cs ks) (keepD (goneC now cs) rd) = true :=
      pile_of (prune_I hI) (Nat.le_trans keepD_len d60) (fun d hd => dr1 d ((List.mem_filter.1 hd).1)) (dr2.sublist List.filter_sublist)
    show chainU (keepC now cs) (keepK now cs ks) (keepD (goneC now cs) rd) x now = _
    rw [chainU, if_pos hok3]
    refine good_dead (way := []) h hy (fun s hs => ?_) (fun s hs => ?_)
    · obtain ⟨-, z, hz, ht⟩ := hall s hs
      rw [hz]; exact prune_look hI hz ht
    · obtain ⟨-, z, hz, ht⟩ := hall s hs
      rw [← hD s hs, Bool.eq_iff_iff, hasI_iff, hasI_iff, keepD, List.mem_filter, prune_gone hI hz ht]
      simp
/-! ### A certificate issued -/
theorem may_look {cs : List Cert} {ks : List CertKey} {c : Cert} {key : Int} {z : Cert × Int} (h0 : ¬ c.iss = 0) (hm : mayU cs c = 0) (hz : lookC cs ks c.iss = some z) : upChk z.1 c = 0 ∧ byU cs ks c key = z.2 := by
  unfold lookC at hz
  by_cases hx : ixP (hasSer c.iss) cs 0 < 0
  · rw [if_pos hx] at hz; cases hz
  · rw [if_neg hx] at hz
    injection hz with hz
    subst hz
    rw [mayU, if_neg h0, if_neg hx] at hm
    exact ⟨hm, by rw [byU, if_neg h0]⟩
theorem take_zipC {α β : Type} : ∀ (i : Nat) (a : List α) (b : List β), (List.zip a b).take i = List.zip (a.take i) (b.take i)
  | 0, a, b => by simp
  | i + 1, [], b => by simp
  | i + 1, x :: a, [] => by simp
  | i + 1, x :: a, y :: b => by simp [take_zipC i a b]
theorem drop_zipC {α β : Type} : ∀ (i : Nat) (a : List α) (b : List β), (List.zip a b).drop i = List.zip (a.drop i) (b.drop i)
  | 0, a, b => by simp
  | i + 1, [], b => by simp
  | i + 1, x :: a, [] => by simp
  | i + 1, x :: a, y :: b => by simp [drop_zipC i a b]
theorem zip_ins {cs : List Cert} {ks : List CertKey} {i : Nat} {c : Cert} {k : CertKey} (h : ks.length = cs.length) : CZ (insL i c cs) (insL i k ks) = insL i (c, k) (CZ cs ks) := by
  have e : CZ cs ks = CZ (cs.take i) (ks.take i) ++ CZ (cs.drop i) (ks.drop i) := by
    rw [← List.zip_append (by rw [List.length_take, List.length_take, h]), List.take_append_drop, List.take_append_drop]
  have hl : (CZ (cs.take i) (ks.take i)).length = min i (CZ cs ks).length := by
    rw [List.length_zip, List.length_take, List.length_take, List.length_zip]; omega
  have e1 : (CZ cs ks).take i = CZ (cs.take i) (ks.take i) := by
    rw [CZ, take_zipC]
  have e2 : (CZ cs ks).drop i = CZ (cs.drop i) (ks.drop i) := by
    rw [CZ, drop_zipC]
  rw [insL, insL, insL, e1, e2, CZ, List.zip_append (by rw [List.length_take, List.length_take, h]), List.zip_cons_cons]
theorem mem_ins {α : Type} {l : List α} {i : Nat} {x y : α} : y ∈ insL i x l ↔ y = x ∨ y ∈ l := by
  rw [List.mem_append, List.mem_cons]
  constructor
  · rintro (h1 | h1 | h1)
    · exact .inr (List.mem_of_mem_take h1)
    · exact .inl h1
    · exact .inr (List.mem_of_mem_drop h1)
  · rintro (h1 | h1)
    · exact .inr (.inl h1)
    · rw [← List.take_append_drop i l, List.mem_append] at h1
      rcases h1 with h1 | h1
      · exact .inl h1
      · exact .inr (.inr h1)
theorem ins_I {cs : List Cert} {ks : List CertKey} {ds : List Int} {c C : Cert} {key : Int} (hok : pileOk cs ks ds = true) (hc : certOk C = true) (hs : C.ser = c.ser) (hk : keyOk key = true) (ha : anyP (hasSer c.ser) cs = false) (h60 : cs.length ≠ 60) : PileI (insL (bsAt (cfSer c.ser) cs) C cs) (insL (bsAt (cfSer c.ser) cs) ⟨c.ser, key⟩ ks) := by
  have hI := pile_I hok
  obtain ⟨p1, p2, p3⟩ := ser_pos hok ha
  refine ⟨?_, ?_, fun z hz => ?_, ?_⟩
  · rw [insL, insL, insAt_len p1, insAt_len (by rw [hI.len]; exact p1), hI.len]
  · rw [insL, insAt_len p1]; have := hI.most; omega
  · rw [zip_ins hI.len, mem_ins] at hz
    rcases hz with rfl | hz
    · exact ⟨hc, hs.symm, hk⟩
    · exact hI.each z hz
  · rw [insL, List.pairwise_append]
    refine ⟨hI.rise.sublist (List.take_sublist _ _), ?_, ?_⟩
    · rw [List.pairwise_cons]
      refine ⟨fun b hb => ?_, hI.rise.sublist (List.drop_sublist _ _)⟩
      obtain ⟨j, hj, rfl⟩ := List.getElem_of_mem hb
      rw [List.getElem_drop, hs]
      exact p3 _ (by rw [List.length_drop] at hj; omega) (by omega)
    · intro a ha2 b hb
      obtain ⟨i, hi, rfl⟩ := List.getElem_of_mem ha2
      rw [List.getElem_take]
      rw [List.length_take] at hi
      have q1 := p2 i (by omega) (by omega)
      rcases List.mem_cons.1 hb with rfl | hb
      · rw [hs]; exact q1
      · obtain ⟨j, hj, rfl⟩ := List.getElem_of_mem hb
        rw [List.length_drop] at hj
        rw [List.getElem_drop]
        exact Int.lt_trans q1 (p3 _ (by omega) (by omega))
theorem markF_marked (c : Cert) (m k : Int) : markF (marked c m) k = markF c k := rfl
theorem certOk_marked (c : Cert) (m : Int) : certOk (marked c m) = certOk c := rfl
/-- FnIssued's plain law. -/
theorem issue_law {cs cs' : List Cert} {ks ks' : List CertKey} {ds : List Int} {c : Cert} {key : Int} (h : issueU cs ks ds c key = ⟨cs', ks', 0⟩) (hd : hasI ds c.ser = false) :
    (c.iss = 0 → chainU cs' ks' ds c.ser c.from_ = ([c.ser], 0)) ∧ ∀ over, c.iss ≠ 0 → chainU cs ks ds c.iss c.from_ = (over, 0) → over.length ≠ 6 → chainU cs' ks' ds c.ser c.from_ = (c.ser :: over, 0) := by
  unfold issueU at h
  by_cases hq : (pileOk cs ks ds && (certOk c && (inR key 0 1099511627776 && (!anyP (hasSer c.ser) cs && !decide (cs.length = 60))))) = true
  · rw [if_pos hq] at h
    simp only [Bool.and_eq_true, Bool.not_eq_true', decide_eq_false_iff_not] at hq
    obtain ⟨hok, hc, hkey, ha, h60⟩ := hq
    by_cases hm : mayU cs c = 0
    · rw [if_pos hm] at h
      injection h with h1 h2 h3
      have hI := pile_I hok
      have hN := ins_I (C := marked c (markF c (byU cs ks c key))) (c := c) (key := key) hok ((certOk_marked _ _).trans hc) rfl hkey ha h60
      rw [h1, h2] at hN
      obtain ⟨-, -, d60, dr, -⟩ := pile_iff hok
      obtain ⟨dr1, dr2⟩ := dead_iff.1 dr
      have hok2 : pileOk cs' ks' ds = true := pile_of hN d60 dr1 dr2
      have hZ : CZ cs' ks' = insL (bsAt (cfSer c.ser) cs) (marked c (markF c (byU cs ks c key)), ⟨c.ser, key⟩) (CZ cs ks) := by
        rw [← h1, ← h2]; exact zip_ins hI.len
      have hlook : lookC cs' ks' c.ser = some (marked c (markF c (byU cs ks c key)), key) := by
        have := look_of hN.rise (z := (marked c (markF c (byU cs ks c key)), ⟨c.ser, key⟩)) (by rw [hZ, mem_ins]; exact .inl rfl)
        exact this
      have hold : ∀ s z, lookC cs ks s = some z → lookC cs' ks' s = some z := by
        intro s z hz
        obtain ⟨k, hm2, hk, hs⟩ := look_mem hI.len hz
        have := look_of hN.rise (z := (z.1, k)) (by rw [hZ, mem_ins]; exact .inr hm2)
        rw [← hs, this, hk]
      have hcr : inR c.from_ c.from_ c.to_ = true := by
        simp only [certOk, Bool.and_eq_true, inR_true] at hc
        exact inR_true.2 ⟨Int.le_refl _, hc.2.2.2.2.2.1.1⟩
      constructor
      · intro h0
        rw [chainU, if_pos hok2, chain_look, hlook]
        show chainAt ds c.from_ _ [] none c.ser (marked c (markF c (byU cs ks c key))) key = _
        unfold chainAt
        rw [if_neg (by decide), hd, if_neg (by decide)]
        rw [show inR c.from_ (marked c (markF c (byU cs ks c key))).from_ (marked c (markF c (byU cs ks c key))).to_ = true from hcr, if_neg (by decide), if_pos (show belChk none (marked c (markF c (byU cs ks c key))) key = 0 from rfl)]
        rw [if_pos (show (marked c (markF c (byU cs ks c key))).iss = 0 from h0), if_pos (by rw [markF_marked, by_root h0]; rfl)]
        rfl
      · intro over h0 hov h6
        rw [chainU, if_pos hok] at hov
        obtain ⟨t, ht, hl, hall⟩ := good_shape hov
        rw [List.nil_append] at ht
        subst ht
        have hl6 := hl (by simp)
        have hmore := good_more (way := []) (way' := [c.ser]) (bel' := some (marked c (markF c (byU cs ks c key)))) (cs' := cs') (ks' := ks') (f' := 6) hov (by simp at h6 hl6 ⊢; omega) (by simp at h6 hl6 ⊢; omega) (fun s hs => by
          obtain ⟨-, z, hz, -⟩ := hall s hs
          rw [hz]; exact hold s z hz) (fun z hz => by
          obtain ⟨u1, u2⟩ := may_look (key := key) h0 hm hz
          unfold upChk at u1
          rw [belChk]
          have a1 : aboveC z.1 c ≠ false := by intro h9; rw [if_pos h9] at u1; omega
          rw [if_neg a1] at u1
          have a2 : underF z.1.owner c.owner ≠ false := by intro h9; rw [if_pos h9] at u1; omega
          rw [if_neg (show ¬ aboveC z.1 (marked c (markF c (byU cs ks c key))) = false from a1), if_neg (show ¬ underF z.1.owner (marked c (markF c (byU cs ks c key))).owner = false from a2), if_pos]
          rw [markF_marked, ← u2]; rfl)
        rw [chainU, if_pos hok2, chain_look, hlook]
        show chainAt ds c.from_ _ [] none c.ser (marked c (markF c (byU cs ks c key))) key = _
        unfold chainAt
        rw [if_neg (by decide), hd, if_neg (by decide)]
        rw [show inR c.from_ (marked c (markF c (byU cs ks c key))).from_ (marked c (markF c (byU cs ks c key))).to_ = true from hcr, if_neg (by decide), if_pos (show belChk none (marked c (markF c (byU cs ks c key))) key = 0 from rfl)]
        rw [if_neg (show ¬ (marked c (markF c (byU cs ks c key))).iss = 0 from h0)]
        exact hmore
    · rw [if_neg hm] at h
      injection h with h1 h2 h3
      exact absurd h3 hm
  · rw [if_neg hq] at h
    injection h with h1 h2 h3
    exact absurd h3 (by decide)
end Go.Proofs.YtlblkpcjknjijaaGreatDoor
